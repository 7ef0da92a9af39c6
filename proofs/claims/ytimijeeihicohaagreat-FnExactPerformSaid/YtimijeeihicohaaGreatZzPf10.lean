/- Parts of the proof, together: Nodes, patches, envelopes, instruments in memory. Nodes: the laws' helpers. Lists of nodes: the laws' helpers. Patches, envelopes, instruments: the laws' helpers. Instruments: the program's tests of nodes, tables, envelopes. Nodes: the program's table of kinds, its test of a node. Nodes: the program's test. No conditions. -/
import Derived.Test.YtimijeeihicohaaGreatZzPf9
namespace Go.Proofs.YtimijeeihicohaaGreat
open Go.RowKit
set_option linter.unusedVariables false
set_option linter.unusedSimpArgs false
set_option maxRecDepth 100000
attribute [local simp] List.getElem?_cons_zero
attribute [local irreducible] awCond awCall awLoop awDraw ow retQ retC resQ Keeps
structure Node where
  (k a b : Int)
  from_ : List Int
deriving Inhabited, DecidableEq
structure Patch where
  inp : Int
  tabs : List (List Int)
  nodes : List Node
  outs : List Int
deriving Inhabited, DecidableEq
structure Envl where
  st : Int
  segs : List Segment
  rel : Int
deriving Inhabited, DecidableEq
structure Inst where
  pat : Patch
  env : Envl
  steps : List Int
deriving Inhabited, DecidableEq
def nodeP : RecP Node 4 where
  rd := fun lo hi M x vs => ∃ u, vs = [iv x.k, iv x.a, iv x.b, u] ∧ SlV intP lo hi M u x.from_
  len := fun ⟨u, h, _⟩ => by rw [h]; rfl
  agree := fun ⟨u, h1, h2⟩ hg => ⟨u, h1, h2.agree hg⟩
  wide := fun ⟨u, h1, h2⟩ a b => ⟨u, h1, h2.wide a b⟩
def patchP : RecP Patch 4 where
  rd := fun lo hi M x vs => ∃ u v w, vs = [iv x.inp, u, v, w] ∧ SlV tabP lo hi M u x.tabs ∧ SlV nodeP lo hi M v x.nodes ∧ SlV intP lo hi M w x.outs
  len := fun ⟨u, v, w, h, _⟩ => by rw [h]; rfl
  agree := fun ⟨u, v, w, h1, h2, h3, h4⟩ hg => ⟨u, v, w, h1, h2.agree hg, h3.agree hg, h4.agree hg⟩
  wide := fun ⟨u, v, w, h1, h2, h3, h4⟩ a b => ⟨u, v, w, h1, h2.wide a b, h3.wide a b, h4.wide a b⟩
abbrev segP : RecP Segment 2 := .flat segmentR
def envP : RecP Envl 3 where
  rd := fun lo hi M x vs => ∃ u, vs = [iv x.st, u, iv x.rel] ∧ SlV segP lo hi M u x.segs
  len := fun ⟨u, h, _⟩ => by rw [h]; rfl
  agree := fun ⟨u, h1, h2⟩ hg => ⟨u, h1, h2.agree hg⟩
  wide := fun ⟨u, h1, h2⟩ a b => ⟨u, h1, h2.wide a b⟩
def instP : RecP Inst 8 where
  rd := fun lo hi M x vs => ∃ ps es u, vs = ps ++ es ++ [u] ∧ patchP.rd lo hi M x.pat ps ∧ envP.rd lo hi M x.env es ∧ SlV intP lo hi M u x.steps
  len := fun ⟨ps, es, u, h, h1, h2, _⟩ => by rw [h, List.length_append, List.length_append, patchP.len h1, envP.len h2]; rfl
  agree := fun ⟨ps, es, u, h, h1, h2, h3⟩ hg => ⟨ps, es, u, h, patchP.agree h1 hg, envP.agree h2 hg, h3.agree hg⟩
  wide := fun ⟨ps, es, u, h, h1, h2, h3⟩ a b => ⟨ps, es, u, h, patchP.wide h1 a b, envP.wide h2 a b, h3.wide a b⟩
theorem Good.imp {H : Type} {enc : TypeId × Value → H} {α : Type} {k : Nat} {t : TypeId} {P Q : RecP α k} (h : Good enc t P) (hi : ∀ lo hi M a vs, P.rd lo hi M a vs → Q.rd lo hi M a vs) : Good enc t Q := fun W n cs d p hf hp => (h W n cs d p hf hp).mono fun M vs ⟨a, ha⟩ => ⟨a, hi _ _ _ _ _ ha⟩
section
variable {H : Type} {enc : TypeId × Value → H}
theorem good_i64 : Good enc 2 intP := good_int Tryz.underlying2
theorem good_ints : Good enc 24 (RecP.sl intP) := good_sl Tryz.underlying24 (by kernel_rfl) (by omega) trivial good_i64
theorem good_tabs : Good enc 22 (RecP.sl tabP) := good_sl Tryz.underlying22 (by kernel_rfl) (by omega) trivial good_ints
theorem good_node : Good enc 193 nodeP := by
  refine (good_map (fun n : Node => (n.k, n.a, n.b, n.from_, ())) (fun x => ⟨x.1, x.2.1, x.2.2.1, x.2.2.2.1⟩) (fun x => rfl) (good_struct Tryz.underlying193 (by kernel_rfl) (.cons rfl (by kernel_rfl) good_i64 (.cons rfl (by kernel_rfl) good_i64 (.cons rfl (by kernel_rfl) good_i64 (.cons rfl (by kernel_rfl) good_ints .nil)))))).imp ?_
  rintro lo hi M a vs ⟨_, _, rfl, rfl, _, _, rfl, rfl, _, _, rfl, rfl, _, _, rfl, ⟨u, rfl, h⟩, rfl⟩
  exact ⟨u, rfl, h⟩
theorem good_seg : Good enc 203 segP := by
  refine (good_map (fun n : Segment => (n.ln, n.tg, ())) (fun x => ⟨x.1, x.2.1⟩) (fun x => rfl) (good_struct Tryz.underlying203 (by kernel_rfl) (.cons rfl (by kernel_rfl) good_i64 (.cons rfl (by kernel_rfl) good_i64 .nil)))).imp ?_
  rintro lo hi M a vs ⟨_, _, rfl, rfl, _, _, rfl, rfl, rfl⟩
  rfl
theorem good_patch : Good enc 26 patchP := by
  refine (good_map (fun n : Patch => (n.inp, n.tabs, n.nodes, n.outs, ())) (fun x => ⟨x.1, x.2.1, x.2.2.1, x.2.2.2.1⟩) (fun x => rfl) (good_struct Tryz.underlying26 (by kernel_rfl) (.cons rfl (by kernel_rfl) good_i64 (.cons rfl (by kernel_rfl) good_tabs (.cons rfl (by kernel_rfl) (good_sl Tryz.underlying23 (by kernel_rfl) (by omega) trivial good_node) (.cons rfl (by kernel_rfl) good_ints .nil)))))).imp ?_
  rintro lo hi M a vs ⟨_, _, rfl, rfl, _, _, rfl, ⟨u, rfl, h1⟩, _, _, rfl, ⟨v, rfl, h2⟩, _, _, rfl, ⟨w, rfl, h3⟩, rfl⟩
  exact ⟨u, v, w, rfl, h1, h2, h3⟩
theorem good_env : Good enc 29 envP := by
  refine (good_map (fun n : Envl => (n.st, n.segs, n.rel, ())) (fun x => ⟨x.1, x.2.1, x.2.2.1⟩) (fun x => rfl) (good_struct Tryz.underlying29 (by kernel_rfl) (.cons rfl (by kernel_rfl) good_i64 (.cons rfl (by kernel_rfl) (good_sl Tryz.underlying27 (by kernel_rfl) (by omega) trivial good_seg) (.cons rfl (by kernel_rfl) good_i64 .nil))))).imp ?_
  rintro lo hi M a vs ⟨_, _, rfl, rfl, _, _, rfl, ⟨u, rfl, h1⟩, _, _, rfl, rfl, rfl⟩
  exact ⟨u, rfl, h1⟩
theorem good_inst : Good enc 31 instP := by
  refine (good_map (fun n : Inst => (n.pat, n.env, n.steps, ())) (fun x => ⟨x.1, x.2.1, x.2.2.1⟩) (fun x => rfl) (good_struct Tryz.underlying31 (by kernel_rfl) (.cons rfl (by kernel_rfl) good_patch (.cons rfl (by kernel_rfl) good_env (.cons rfl (by kernel_rfl) good_ints .nil))))).imp ?_
  rintro lo hi M a vs ⟨ps, _, rfl, h1, es, _, rfl, h2, _, _, rfl, ⟨u, rfl, h3⟩, rfl⟩
  exact ⟨ps, es, u, by simp, h1, h2, h3⟩
end
end Go.Proofs.YtimijeeihicohaaGreat

namespace Go.Proofs.YtimijeeihicohaaGreat
open Go.RowKit
set_option linter.unusedVariables false
set_option linter.unusedSimpArgs false
set_option maxRecDepth 100000
attribute [local simp] List.getElem?_cons_zero
attribute [local irreducible] awCond awCall awLoop awDraw ow retQ retC resQ Keeps
theorem SlV.isSl {α : Type} {k : Nat} [Inhabited α] {P : RecP α k} {lo hi : Nat} {M : Mem} {u : Value} {l : List α} (h : SlV P lo hi M u l) : ∃ A n c, u = .slice A n c := by
  obtain ⟨A, n, c, e, _⟩ := h
  exact ⟨A, n, c, e⟩
theorem agree_mid {M A B C : Mem} {lo hi : Nat} (h : B.length = A.length) (hm : M.length + A.length ≤ lo) : Agree lo hi (M ++ B ++ C) (M ++ (A ++ C)) := fun i s h1 h2 hs => by
  rw [List.append_assoc] at hs
  rw [List.getElem?_append_right (by omega), List.getElem?_append_right (by omega)] at hs ⊢
  rw [h] at hs
  exact hs
/-- Rows ahead of a value's own rows have turned. -/
theorem SlV.boxes {α : Type} {k : Nat} [Inhabited α] {P : RecP α k} {M A B C : Mem} {u : Value} {l : List α} (h : SlV P (M ++ B).length (M ++ B ++ C).length (M ++ B ++ C) u l) (hl : B.length = A.length) : SlV P M.length (M ++ (A ++ C)).length (M ++ (A ++ C)) u l :=
  (h.agree (agree_mid hl (by simp; omega))).wide (by simp) (by simp; omega)
theorem node_eq {a b : Node} : a = b ↔ a.k = b.k ∧ a.a = b.a ∧ a.b = b.b ∧ a.from_ = b.from_ := by
  cases a; cases b; simp
def wtNode (x : Node) : Nat := x.from_.length
theorem toNode_c {M : Mem} {lo hi : Nat} {us : List Value} {x : Node} (h : nodeP.rd lo hi M x us) (hb : x.from_.length ≤ 1048576) : ∃ vs N, Det Tryz.prog M.length 138 [.agg us.toArray] M (.agg vs.toArray) (M ++ N) ∧ nodeP.rd M.length (M ++ N).length (M ++ N) x vs ∧ vs.all oneV = true ∧ (Value.agg vs.toArray).cells.toList = vs := by
  obtain ⟨u, rfl, hu⟩ := h
  obtain ⟨v, N, d, r⟩ := toInt64S_x (M := M ++ [.live ⟨[iv x.k, iv x.a, iv x.b, u], true, true, 193, 4⟩, .live ⟨[iv 0, iv 0, iv 0, .slice none 0 0], true, true, 198, 4⟩, .live ⟨[iv x.k, iv x.a, iv x.b, .slice none 0 0], true, true, 198, 4⟩]) (hu.app _) hb
  obtain ⟨A, n, c, rfl⟩ := r.isSl
  refine ⟨[iv x.k, iv x.a, iv x.b, .slice A n c], [.live ⟨[iv x.k, iv x.a, iv x.b, u], true, true, 193, 4⟩, .live ⟨[iv x.k, iv x.a, iv x.b, .slice A n c], true, true, 198, 4⟩, .live ⟨[iv x.k, iv x.a, iv x.b, .slice A n c], true, true, 198, 4⟩] ++ N, Ctr.det ?_, ⟨_, rfl, ?_⟩, by simp, rfl⟩
  · obtain ⟨A1, n1, c1, rfl⟩ := hu.isSl
    first | (refine ctr_fn Tryz.func138 rfl Tryz.ntmps138 Tryz.results138 rfl rfl (by simp) ?_) | (refine ctr_fnC Tryz.func138 rfl Tryz.ntmps138 Tryz.results138 rfl (by simp) ?_)
    simp
    refine awCall_det' d (by simp) ?_
    simp
  · exact r.boxes rfl
theorem szNode_x {M : Mem} {lo hi : Nat} {us : List Value} {x : Node} {z : Int} (h : nodeP.rd lo hi M x us) (hz : 0 ≤ z) (hz1 : z ≤ 1048576) : Det Tryz.prog M.length 133 [.agg us.toArray, iv z] M (iv (if z - wtNode x < 0 then -1 else z - wtNode x)) M := by
  obtain ⟨u, rfl, hu⟩ := h
  obtain ⟨A1, n1, c1, rfl⟩ := hu.isSl
  have e : wtNode x = wtInt64S x.from_ := rfl
  rw [e]
  first | (refine det_fn Tryz.func133 rfl Tryz.ntmps133 Tryz.results133 rfl rfl rfl (by simp) ?_) | (refine det_fnC Tryz.func133 rfl Tryz.ntmps133 Tryz.results133 rfl rfl (by simp) ?_)
  simp
  refine awCall_det' (szInt64S_x (hu.app _) hz hz1) (by simp) ?_
  by_cases hneg : z - wtInt64S x.from_ < 0
  · simp [hneg, keeps_app]
  · simp [hneg, keeps_app]
theorem eqNode_x {M : Mem} {lo hi lo' hi' : Nat} {us vs : List Value} {x y : Node} (h : nodeP.rd lo hi M x us) (h' : nodeP.rd lo' hi' M y vs) : Det Tryz.prog M.length 144 [.agg us.toArray, .agg vs.toArray] M (.bool (decide (x = y))) M := by
  obtain ⟨u, rfl, hu⟩ := h
  obtain ⟨A1, n1, c1, rfl⟩ := hu.isSl
  obtain ⟨v, rfl, hv⟩ := h'
  obtain ⟨A2, n2, c2, rfl⟩ := hv.isSl
  first | (refine det_fn Tryz.func144 rfl Tryz.ntmps144 Tryz.results144 rfl rfl rfl (by simp) ?_) | (refine det_fnC Tryz.func144 rfl Tryz.ntmps144 Tryz.results144 rfl rfl (by simp) ?_)
  simp
  by_cases h1 : x.k = y.k
  case neg => simp [h1, node_eq, keeps_app]
  by_cases h2 : x.a = y.a
  case neg => simp [h1, h2, node_eq, keeps_app]
  by_cases h3 : x.b = y.b
  case neg => simp [h1, h2, h3, node_eq, keeps_app]
  simp [h1, h2, h3]
  refine awCall_det' (eqInt64S_x (hu.app _) (hv.app _)) (by simp) ?_
  by_cases h4 : x.from_ = y.from_
  · simp [h1, h2, h3, h4, node_eq, keeps_app]
  · simp [h1, h2, h3, h4, node_eq, keeps_app]
end Go.Proofs.YtimijeeihicohaaGreat

namespace Go.Proofs.YtimijeeihicohaaGreat
open Go.RowKit
set_option linter.unusedVariables false
set_option linter.unusedSimpArgs false
set_option maxRecDepth 100000
attribute [local simp] List.getElem?_cons_zero
attribute [local irreducible] awCond awCall awLoop awDraw ow retQ retC resQ Keeps
def wtNodeS (l : List Node) : Nat := l.length + sumW wtNode l l.length
theorem szNodeS_x {M : Mem} {lo hi : Nat} {u : Value} {l : List Node} {z : Int} (h : SlV nodeP lo hi M u l) (hz : 0 ≤ z) (hz1 : z ≤ 1048576) : Det Tryz.prog M.length 79 [u, iv z] M (iv (if z - wtNodeS l < 0 then -1 else z - wtNodeS l)) M := by
  obtain ⟨A, n, c, rfl, h1, h2, h3⟩ := h
  have hl := h3.1
  have hw : wtNodeS l = n + sumW wtNode l l.length := by unfold wtNodeS; rw [hl]
  rw [hw]
  first | (refine det_fn Tryz.func79 rfl Tryz.ntmps79 Tryz.results79 rfl rfl rfl (by simp) ?_) | (refine det_fnC Tryz.func79 rfl Tryz.ntmps79 Tryz.results79 rfl rfl (by simp) ?_)
  simp (disch := omega) [wrap_in]
  refine awCond_split ?_ ?_ <;> intro h
  · simp at h
    simp [Keeps.refl]
    omega
  · simp at h
    simp
    refine awLoop_T (fun m T M' => ∃ k : Nat, k + m = n ∧ Keeps M M' ∧ 0 ≤ z - n - sumW wtNode l k ∧ look T 5 = some (iv k) ∧ look T 1 = some (iv (z - n - sumW wtNode l k)) ∧ look T 0 = some (.slice A n c)) n ⟨0, by omega, Keeps.refl _, by rw [sumW_zero]; omega, by simp, by simp [sumW_zero], by simp⟩ ?_
    rintro m T M' ⟨k, hm, hk, hp, h5, h1', h0⟩
    by_cases hlt : k < n
    · obtain ⟨id, off, us, rfl, he, hrd, hc⟩ := (h3.keeps hk).at_ hlt
      have c1 := cellsAt_of (n := 4) hc (nodeP.len hrd) (by omega)
      simp (disch := omega) [h5, h1', h0, hlt, c1, he]
      have hd := szNode_x (M := M') hrd hp (by omega)
      refine awCall_det' hd (by have := hk.len; omega) ?_
      have ht := sumW_succ wtNode (l := l) (k := k) (by omega)
      have hle := sumW_le wtNode l (k + 1)
      by_cases hneg : z - n - sumW wtNode l k - wtNode (el l k) < 0
      · simp [hneg]
        exact ⟨fun h => by omega, hk⟩
      · simp (disch := omega) [hneg, h5, wrap_in]
        exact lpI (m - 1) (by omega) ⟨k + 1, by omega, hk, by omega, by simp, by rw [ht]; simp; omega, by simp [h0]⟩
    · obtain rfl : k = n := by omega
      rw [show sumW wtNode l k = sumW wtNode l l.length by rw [hl]] at hp h1'
      simp [h5, h1', h0]
      rw [if_neg (by omega)]
      exact ⟨by omega, hk⟩
theorem toNodeS_x {M : Mem} {lo hi : Nat} {u : Value} {l : List Node} (h : SlV nodeP lo hi M u l) (hn : l.length ≤ 1048576) (hb : ∀ x, x ∈ l → x.from_.length ≤ 1048576) : ∃ v N, Det Tryz.prog M.length 88 [u] M v (M ++ N) ∧ SlV nodeP M.length (M ++ N).length (M ++ N) v l := by
  obtain ⟨A, n, c, rfl, h1, h2, h3⟩ := h
  have hl := h3.1
  obtain ⟨f, f0, fI, fS, N, fN, hS⟩ := to_chain (P := nodeP) (Mk := fun us => .agg us.toArray) (fn := 138) (e := 198) (z := [iv 0, iv 0, iv 0, .slice none 0 0]) h3 rfl (by omega) (fun M1 i us hk hi hrd => toNode_c hrd (hb _ (el_mem (by omega))))
  have hN := fI n (Nat.le_refl _)
  rw [fN] at hS
  refine ⟨.slice (some ⟨M.length, 0, none⟩) n n, N, Ctr.det ?_, _, n, n, rfl, h1, (fun h => by cases h), hS⟩
  first | (refine ctr_fn Tryz.func88 rfl Tryz.ntmps88 Tryz.results88 rfl rfl (by simp) ?_) | (refine ctr_fnC Tryz.func88 rfl Tryz.ntmps88 Tryz.results88 rfl (by simp) ?_)
  simp
  refine ⟨by omega, ?_⟩
  refine awLoop_T (fun m T M' => ∃ k : Nat, k + m = n ∧ M' = f k ∧ look T 4 = some (iv k) ∧ look T 0 = some (.slice A n c) ∧ look T 3 = some (.slice (some ⟨M.length, 0, none⟩) n n)) n ⟨0, by omega, by rw [f0], by simp, by simp, by simp⟩ ?_
  rintro m T M' ⟨k, hm, rfl, h4, h0, h3'⟩
  by_cases hlt : k < n
  · obtain ⟨id, off, us, rfl, he, hrd, hc⟩ := h3.at_ hlt
    obtain ⟨g1, g2, g3⟩ := fI k (by omega)
    obtain ⟨vs, N', d1, d2, d2', d3⟩ := fS k hlt id off us rfl (cellsAt_of hc (nodeP.len hrd) (by omega))
    have c1 := cellsAt_of (n := 4) hc (nodeP.len hrd) (by omega)
    have c2 := cellsAt_keeps g1 c1
    simp (disch := omega) [h3', h4, h0, hlt, wrap_in, c2, g3, rowEsz_keeps g1 he]
    refine awCall_det' d1 (by omega) ?_
    have g4 : rowEsz (f k ++ N') M.length = some 4 := rowEsz_keeps (keeps_app _) g3
    have hsz : (Value.agg vs.toArray).cells.size = 4 := by rw [← Array.length_toList, d2', d2]
    try simp (disch := omega) [h3', h4, h0, g4, wrap_in, hlt]
    refine ⟨hsz.symm, ?_⟩
    try rw [d2']
    rw [d3, ow_some]
    try simp (disch := omega) [h3', h4, h0, wrap_in]
    exact lpI (m - 1) (by omega) ⟨k + 1, by omega, rfl, by simp, by simp [h0], by simp [h3']⟩
  · obtain rfl : k = n := by omega
    simp [h3', h4, h0]
    exact fN
theorem eqNodeS_x {M : Mem} {lo hi lo' hi' : Nat} {u v : Value} {x y : List Node} (h : SlV nodeP lo hi M u x) (h' : SlV nodeP lo' hi' M v y) : Det Tryz.prog M.length 95 [u, v] M (.bool (decide (x = y))) M := by
  obtain ⟨A, n, c, rfl, h1, h2, h3⟩ := h
  obtain ⟨B, m, d, rfl, g1, g2, g3⟩ := h'
  have hlx := h3.1
  have hly := g3.1
  first | (refine det_fn Tryz.func95 rfl Tryz.ntmps95 Tryz.results95 rfl rfl rfl (by simp) ?_) | (refine det_fnC Tryz.func95 rfl Tryz.ntmps95 Tryz.results95 rfl rfl (by simp) ?_)
  simp
  refine awCond_split ?_ ?_ <;> intro hnm
  · simp at hnm
    simp
    exact ⟨fun e => by subst e; omega, Keeps.refl _⟩
  · simp at hnm
    obtain rfl : n = m := by omega
    simp
    refine awLoop_T (fun m T M' => ∃ k : Nat, k + m = n ∧ Keeps M M' ∧ look T 5 = some (iv k) ∧ look T 0 = some (.slice A n c) ∧ look T 1 = some (.slice B n d) ∧ x.take k = y.take k) n ⟨0, by omega, Keeps.refl _, by simp, by simp, by simp, by simp⟩ ?_
    rintro m T M' ⟨k, hm, hk, h4, h0, h1', hxy⟩
    by_cases hlt : k < n
    · obtain ⟨id, off, us, rfl, he, hrd, hc⟩ := (h3.keeps hk).at_ hlt
      obtain ⟨id', off', us', rfl, he', hrd', hc'⟩ := (g3.keeps hk).at_ hlt
      have hkl := hk.len
      have c1 := cellsAt_of (n := 4) hc (nodeP.len hrd) (by omega)
      have c1' := cellsAt_of (n := 4) hc' (nodeP.len hrd') (by omega)
      simp (disch := omega) [h4, h0, h1', hlt, wrap_in]
      refine awDraw_E 8 [[],[],[0,1],[2,0,1],[],[],[4,5],[6,4,5],[3,2,0,1,7,6,4,5],[8,3,2,0,1,7,6,4,5]] (by kernel_rfl) (by kernel_rfl) ?_
      simp (disch := omega) [h4, h0, h1', hlt, wrap_in, c1, c1', he, he']
      refine awCall_det' (eqNode_x (M := M') hrd hrd') (by omega) ?_
      by_cases hxy' : el x k = el y k
      · simp (disch := omega) [hxy', h4, h0, h1', wrap_in]
        refine lpI (m - 1) (by omega) ?_
        exact ⟨k + 1, by omega, hk, by simp, by simp [h0], by simp [h1'], by rw [take_el (by omega), take_el (by omega), hxy, hxy']⟩
      · simp [hxy']
        exact ⟨fun e => hxy' (by rw [e]), hk⟩
    · obtain rfl : k = n := by omega
      rw [List.take_of_length_le (by omega), List.take_of_length_le (by omega)] at hxy
      simp [h4, h0, h1', hxy, hk]
end Go.Proofs.YtimijeeihicohaaGreat

namespace Go.Proofs.YtimijeeihicohaaGreat
open Go.RowKit
set_option linter.unusedVariables false
set_option linter.unusedSimpArgs false
set_option maxRecDepth 100000
attribute [local simp] List.getElem?_cons_zero
attribute [local irreducible] awCond awCall awLoop awDraw ow retQ retC resQ Keeps
section
variable {α : Type} {k : Nat} [Inhabited α] {P : RecP α k}
omit [Inhabited α] in
theorem agree_mid2 {M A B C D E : Mem} {lo hi : Nat} (h : B.length = A.length) (hm : M.length + A.length ≤ lo) : Agree lo hi (M ++ (B ++ C) ++ D) (M ++ (A ++ (C ++ (D ++ E)))) := fun i s h1 h2 hs => by
  have e1 : M ++ (B ++ C) ++ D = M ++ (B ++ (C ++ D)) := by simp
  have e2 : M ++ (A ++ (C ++ (D ++ E))) = M ++ (A ++ (C ++ D)) ++ E := by simp
  rw [e1, List.getElem?_append_right (by omega), List.getElem?_append_right (by omega), h] at hs
  rw [e2, List.getElem?_append_left (by have := (List.getElem?_eq_some_iff.1 hs).1; simp at *; omega), List.getElem?_append_right (by omega), List.getElem?_append_right (by omega)]
  exact hs
/-- Rows ahead of a value's own rows have turned; more lie behind. -/
theorem SlV.boxesG {M A B C D E : Mem} {u : Value} {l : List α} (h : SlV P (M ++ (B ++ C)).length (M ++ (B ++ C) ++ D).length (M ++ (B ++ C) ++ D) u l) (hl : B.length = A.length) : SlV P M.length (M ++ (A ++ (C ++ (D ++ E)))).length (M ++ (A ++ (C ++ (D ++ E)))) u l :=
  (h.agree (agree_mid2 hl (by simp; omega))).wide (by simp) (by simp; omega)
omit [Inhabited α] in
theorem RecP.boxesG (P : RecP α k) {M A B C D E : Mem} {vs : List Value} {x : α} (h : P.rd (M ++ (B ++ C)).length (M ++ (B ++ C) ++ D).length (M ++ (B ++ C) ++ D) x vs) (hl : B.length = A.length) : P.rd M.length (M ++ (A ++ (C ++ (D ++ E)))).length (M ++ (A ++ (C ++ (D ++ E)))) x vs :=
  P.wide (P.agree h (agree_mid2 hl (by simp; omega))) (by simp) (by simp; omega)
end
def wtSegmentS (l : List Segment) : Nat := l.length
theorem szSegmentS_x {M : Mem} {lo hi : Nat} {u : Value} {l : List Segment} {z : Int} (h : SlV segP lo hi M u l) (hz : 0 ≤ z) (hz1 : z ≤ 1048576) : Det Tryz.prog M.length 80 [u, iv z] M (iv (if z - wtSegmentS l < 0 then -1 else z - wtSegmentS l)) M := by
  obtain ⟨A, n, c, rfl, h1, h2, h3⟩ := h
  rw [show wtSegmentS l = n from h3.1]
  exact szSegmentS_a z hz hz1 h1
theorem toSegmentS_x {M : Mem} {lo hi : Nat} {u : Value} {l : List Segment} (h : SlV segP lo hi M u l) (hn : l.length ≤ 1048576) : ∃ v N, Det Tryz.prog M.length 89 [u] M v (M ++ N) ∧ SlV segP M.length (M ++ N).length (M ++ N) v l := by
  obtain ⟨A, n, c, rfl, h1, h2, h3⟩ := h
  have hl := h3.1
  refine ⟨_, _, toSegmentS_d h3.sl (by omega), _, n, n, rfl, h1, (fun h => by cases h), SlP.of_sl ⟨hl, fun _ => ⟨M.length, 0, rfl, by simp [rowEsz], fun j x hx => by simp [cellAt, hx]⟩⟩ fun a e _ => ?_⟩
  injection e with e
  subst e
  exact ⟨Nat.le_refl _, by simp⟩
theorem eqSegmentS_x {M : Mem} {lo hi lo' hi' : Nat} {u v : Value} {x y : List Segment} (h : SlV segP lo hi M u x) (h' : SlV segP lo' hi' M v y) (hx : x.length ≤ 1048576) : Det Tryz.prog M.length 96 [u, v] M (.bool (decide (x = y))) M := by
  obtain ⟨A, n, c, rfl, h1, h2, h3⟩ := h
  obtain ⟨B, m, d, rfl, g1, g2, g3⟩ := h'
  exact eqSegmentS_a h3.sl g3.sl (by have := h3.1; omega)
theorem patch_eq {a b : Patch} : a = b ↔ a.inp = b.inp ∧ a.tabs = b.tabs ∧ a.nodes = b.nodes ∧ a.outs = b.outs := by
  cases a; cases b; simp
theorem env_eq {a b : Envl} : a = b ↔ a.st = b.st ∧ a.segs = b.segs ∧ a.rel = b.rel := by
  cases a; cases b; simp
theorem inst_eq {a b : Inst} : a = b ↔ a.pat = b.pat ∧ a.env = b.env ∧ a.steps = b.steps := by
  cases a; cases b; simp
/-- No list is long. -/
structure SmallP (p : Patch) : Prop where
  tabs : p.tabs.length ≤ 1048576
  tab : ∀ x, x ∈ p.tabs → x.length ≤ 1048576
  nodes : p.nodes.length ≤ 1048576
  node : ∀ x, x ∈ p.nodes → x.from_.length ≤ 1048576
  outs : p.outs.length ≤ 1048576
structure SmallI (i : Inst) : Prop where
  pat : SmallP i.pat
  segs : i.env.segs.length ≤ 1048576
  steps : i.steps.length ≤ 1048576
def wtPatch (p : Patch) : Nat := wtInt64SS p.tabs + wtNodeS p.nodes + wtInt64S p.outs
theorem szPatch_x {M : Mem} {lo hi : Nat} {us : List Value} {x : Patch} {z : Int} (h : patchP.rd lo hi M x us) (hz : 0 ≤ z) (hz1 : z ≤ 1048576) : Det Tryz.prog M.length 37 [.agg us.toArray, iv z] M (iv (if z - wtPatch x < 0 then -1 else z - wtPatch x)) M := by
  obtain ⟨u, v, w, rfl, hu, hv, hw⟩ := h
  obtain ⟨A1, n1, c1, rfl⟩ := hu.isSl
  obtain ⟨A2, n2, c2, rfl⟩ := hv.isSl
  obtain ⟨A3, n3, c3, rfl⟩ := hw.isSl
  have e : wtPatch x = wtInt64SS x.tabs + wtNodeS x.nodes + wtInt64S x.outs := rfl
  rw [e]
  first | (refine det_fn Tryz.func37 rfl Tryz.ntmps37 Tryz.results37 rfl rfl rfl (by simp) ?_) | (refine det_fnC Tryz.func37 rfl Tryz.ntmps37 Tryz.results37 rfl rfl (by simp) ?_)
  simp
  refine awCall_det' (szInt64SS_x (hu.app _) hz hz1) (by simp) ?_
  by_cases g1 : z - wtInt64SS x.tabs < 0
  · simp [g1]
    exact ⟨fun h => by omega, keeps_app _⟩
  simp [g1]
  refine awCall_det' (szNodeS_x (hv.app _) (by omega) (by omega)) (by simp) ?_
  by_cases g2 : z - wtInt64SS x.tabs - wtNodeS x.nodes < 0
  · simp [g2]
    exact ⟨fun h => by omega, keeps_app _⟩
  simp [g2]
  refine awCall_det' (szInt64S_x (hw.app _) (by omega) (by omega)) (by simp) ?_
  by_cases g3 : z - wtInt64SS x.tabs - wtNodeS x.nodes - wtInt64S x.outs < 0
  · simp [g3]
    exact ⟨fun h => by omega, keeps_app _⟩
  simp [g3]
  refine ⟨?_, keeps_app _⟩
  rw [if_neg (by omega)]
  omega
theorem wtPatch_small {p : Patch} {z : Int} (h : ¬ z - wtPatch p < 0) (hz : z ≤ 1048576) : SmallP p := by
  have e : wtInt64S p.outs = p.outs.length := rfl
  unfold wtPatch wtInt64SS wtNodeS at h
  rw [e] at h
  refine ⟨by omega, fun x hx => ?_, by omega, fun x hx => ?_, by omega⟩
  · have : x.length ≤ sumW wtInt64S p.tabs p.tabs.length := sumW_mem wtInt64S hx
    omega
  · have : x.from_.length ≤ sumW wtNode p.nodes p.nodes.length := sumW_mem wtNode hx
    omega
def wtEnvl (p : Envl) : Nat := wtSegmentS p.segs
theorem szEnvelope_x {M : Mem} {lo hi : Nat} {us : List Value} {x : Envl} {z : Int} (h : envP.rd lo hi M x us) (hz : 0 ≤ z) (hz1 : z ≤ 1048576) : Det Tryz.prog M.length 38 [.agg us.toArray, iv z] M (iv (if z - wtEnvl x < 0 then -1 else z - wtEnvl x)) M := by
  obtain ⟨u, rfl, hu⟩ := h
  obtain ⟨A1, n1, c1, rfl⟩ := hu.isSl
  have e : wtEnvl x = wtSegmentS x.segs := rfl
  rw [e]
  first | (refine det_fn Tryz.func38 rfl Tryz.ntmps38 Tryz.results38 rfl rfl rfl (by simp) ?_) | (refine det_fnC Tryz.func38 rfl Tryz.ntmps38 Tryz.results38 rfl rfl (by simp) ?_)
  simp
  refine awCall_det' (szSegmentS_x (hu.app _) hz hz1) (by simp) ?_
  by_cases g1 : z - wtSegmentS x.segs < 0
  · simp [g1, keeps_app]
  · simp [g1, keeps_app]
def wtInst (i : Inst) : Nat := wtPatch i.pat + wtEnvl i.env + wtInt64S i.steps
theorem szInstrument_x {M : Mem} {lo hi : Nat} {us : List Value} {x : Inst} {z : Int} (h : instP.rd lo hi M x us) (hz : 0 ≤ z) (hz1 : z ≤ 1048576) : Det Tryz.prog M.length 7 [.agg us.toArray, iv z] M (iv (if z - wtInst x < 0 then -1 else z - wtInst x)) M := by
  obtain ⟨ps, es, w, rfl, hp, he, hw⟩ := h
  obtain ⟨A3, n3, c3, rfl⟩ := hw.isSl
  have e : wtInst x = wtPatch x.pat + wtEnvl x.env + wtInt64S x.steps := rfl
  rw [e]
  obtain ⟨u1, u2, u3, rfl, q1, q2, q3⟩ := id hp
  obtain ⟨B1, m1, d1, rfl⟩ := q1.isSl
  obtain ⟨B2, m2, d2, rfl⟩ := q2.isSl
  obtain ⟨B3, m3, d3, rfl⟩ := q3.isSl
  obtain ⟨u4, rfl, q4⟩ := id he
  obtain ⟨B4, m4, d4, rfl⟩ := q4.isSl
  first | (refine det_fn Tryz.func7 rfl Tryz.ntmps7 Tryz.results7 rfl rfl rfl (by simp) ?_) | (refine det_fnC Tryz.func7 rfl Tryz.ntmps7 Tryz.results7 rfl rfl (by simp) ?_)
  simp
  refine awCall_det' (szPatch_x (patchP.app hp _) hz hz1) (by simp) ?_
  by_cases g1 : z - wtPatch x.pat < 0
  · simp [g1]
    exact ⟨fun h => by omega, keeps_app _⟩
  simp [g1]
  refine awCall_det' (szEnvelope_x (envP.app he _) (by omega) (by omega)) (by simp) ?_
  by_cases g2 : z - wtPatch x.pat - wtEnvl x.env < 0
  · simp [g2]
    exact ⟨fun h => by omega, keeps_app _⟩
  simp [g2]
  refine awCall_det' (szInt64S_x (hw.app _) (by omega) (by omega)) (by simp) ?_
  by_cases g3 : z - wtPatch x.pat - wtEnvl x.env - wtInt64S x.steps < 0
  · simp [g3]
    exact ⟨fun h => by omega, keeps_app _⟩
  simp [g3]
  refine ⟨?_, keeps_app _⟩
  rw [if_neg (by omega)]
  omega
theorem wtInst_small {i : Inst} {z : Int} (h : ¬ z - wtInst i < 0) (hz : z ≤ 1048576) : SmallI i := by
  unfold wtInst at h
  have h1 : ¬ z - wtPatch i.pat < 0 := by omega
  unfold wtEnvl wtSegmentS wtInt64S at h
  exact ⟨wtPatch_small h1 hz, by omega, by omega⟩
theorem toPatch_x {M : Mem} {lo hi : Nat} {us : List Value} {x : Patch} (h : patchP.rd lo hi M x us) (hb : SmallP x) : ∃ vs N, Det Tryz.prog M.length 42 [.agg us.toArray] M (.agg vs.toArray) (M ++ N) ∧ patchP.rd M.length (M ++ N).length (M ++ N) x vs := by
  obtain ⟨u, v, w, rfl, hu, hv, hw⟩ := h
  obtain ⟨A1, n1, c1, rfl⟩ := hu.isSl
  obtain ⟨A2, n2, c2, rfl⟩ := hv.isSl
  obtain ⟨A3, n3, c3, rfl⟩ := hw.isSl
  obtain ⟨v1, N1, d1, r1⟩ := toInt64SS_x (M := M ++ ([Slot.live ⟨[iv x.inp, .slice A1 n1 c1, .slice A2 n2 c2, .slice A3 n3 c3], true, true, 26, 4⟩, .live ⟨[iv 0, .slice none 0 0, .slice none 0 0, .slice none 0 0], true, true, 39, 4⟩, .live ⟨[iv x.inp, .slice none 0 0, .slice none 0 0, .slice none 0 0], true, true, 39, 4⟩] ++ [])) (hu.app _) hb.tabs hb.tab
  obtain ⟨B1, m1, e1, rfl⟩ := r1.isSl
  obtain ⟨v2, N2, d2, r2⟩ := toNodeS_x (M := M ++ ([Slot.live ⟨[iv x.inp, .slice A1 n1 c1, .slice A2 n2 c2, .slice A3 n3 c3], true, true, 26, 4⟩, .live ⟨[iv 0, .slice none 0 0, .slice none 0 0, .slice none 0 0], true, true, 39, 4⟩, .live ⟨[iv x.inp, .slice B1 m1 e1, .slice none 0 0, .slice none 0 0], true, true, 39, 4⟩] ++ N1)) (hv.app _) hb.nodes hb.node
  obtain ⟨B2, m2, e2, rfl⟩ := r2.isSl
  obtain ⟨v3, N3, d3, r3⟩ := toInt64S_x (M := M ++ ([Slot.live ⟨[iv x.inp, .slice A1 n1 c1, .slice A2 n2 c2, .slice A3 n3 c3], true, true, 26, 4⟩, .live ⟨[iv 0, .slice none 0 0, .slice none 0 0, .slice none 0 0], true, true, 39, 4⟩, .live ⟨[iv x.inp, .slice B1 m1 e1, .slice B2 m2 e2, .slice none 0 0], true, true, 39, 4⟩] ++ (N1 ++ N2))) (hw.app _) hb.outs
  obtain ⟨B3, m3, e3, rfl⟩ := r3.isSl
  refine ⟨[iv x.inp, .slice B1 m1 e1, .slice B2 m2 e2, .slice B3 m3 e3], [.live ⟨[iv x.inp, .slice A1 n1 c1, .slice A2 n2 c2, .slice A3 n3 c3], true, true, 26, 4⟩, .live ⟨[iv x.inp, .slice B1 m1 e1, .slice B2 m2 e2, .slice B3 m3 e3], true, true, 39, 4⟩, .live ⟨[iv x.inp, .slice B1 m1 e1, .slice B2 m2 e2, .slice B3 m3 e3], true, true, 39, 4⟩] ++ (N1 ++ (N2 ++ N3)), Ctr.det ?_, ⟨_, _, _, rfl, ?_, ?_, ?_⟩⟩
  · first | (refine ctr_fn Tryz.func42 rfl Tryz.ntmps42 Tryz.results42 rfl rfl (by simp) ?_) | (refine ctr_fnC Tryz.func42 rfl Tryz.ntmps42 Tryz.results42 rfl (by simp) ?_)
    simp
    simp at d1 d2 d3
    refine awCall_det' d1 (by simp) ?_
    simp
    refine awCall_det' d2 (by simp) ?_
    simp
    refine awCall_det' d3 (by simp) ?_
    simp
  · exact r1.boxesG rfl
  · exact r2.boxesG rfl
  · have := r3.boxesG (A := [.live ⟨[iv x.inp, .slice A1 n1 c1, .slice A2 n2 c2, .slice A3 n3 c3], true, true, 26, 4⟩, .live ⟨[iv x.inp, .slice B1 m1 e1, .slice B2 m2 e2, .slice B3 m3 e3], true, true, 39, 4⟩, .live ⟨[iv x.inp, .slice B1 m1 e1, .slice B2 m2 e2, .slice B3 m3 e3], true, true, 39, 4⟩]) (E := []) rfl
    simpa using this
theorem toEnvelope_x {M : Mem} {lo hi : Nat} {us : List Value} {x : Envl} (h : envP.rd lo hi M x us) (hb : x.segs.length ≤ 1048576) : ∃ vs N, Det Tryz.prog M.length 43 [.agg us.toArray] M (.agg vs.toArray) (M ++ N) ∧ envP.rd M.length (M ++ N).length (M ++ N) x vs := by
  obtain ⟨u, rfl, hu⟩ := h
  obtain ⟨A1, n1, c1, rfl⟩ := hu.isSl
  obtain ⟨v1, N1, d1, r1⟩ := toSegmentS_x (M := M ++ [Slot.live ⟨[iv x.st, .slice A1 n1 c1, iv x.rel], true, true, 29, 3⟩, .live ⟨[iv 0, .slice none 0 0, iv 0], true, true, 42, 3⟩, .live ⟨[iv x.st, .slice none 0 0, iv 0], true, true, 42, 3⟩]) (hu.app _) hb
  obtain ⟨B1, m1, e1, rfl⟩ := r1.isSl
  refine ⟨[iv x.st, .slice B1 m1 e1, iv x.rel], [.live ⟨[iv x.st, .slice A1 n1 c1, iv x.rel], true, true, 29, 3⟩, .live ⟨[iv x.st, .slice B1 m1 e1, iv x.rel], true, true, 42, 3⟩, .live ⟨[iv x.st, .slice B1 m1 e1, iv x.rel], true, true, 42, 3⟩] ++ N1, Ctr.det ?_, ⟨_, rfl, r1.boxes rfl⟩⟩
  first | (refine ctr_fn Tryz.func43 rfl Tryz.ntmps43 Tryz.results43 rfl rfl (by simp) ?_) | (refine ctr_fnC Tryz.func43 rfl Tryz.ntmps43 Tryz.results43 rfl (by simp) ?_)
  simp
  refine awCall_det' d1 (by simp) ?_
  simp
theorem patch_isV {lo hi : Nat} {M : Mem} {x : Patch} {vs : List Value} (h : patchP.rd lo hi M x vs) : ∃ A1 n1 c1 A2 n2 c2 A3 n3 c3, vs = [iv x.inp, .slice A1 n1 c1, .slice A2 n2 c2, .slice A3 n3 c3] := by
  obtain ⟨u, v, w, rfl, hu, hv, hw⟩ := h
  obtain ⟨A1, n1, c1, rfl⟩ := hu.isSl
  obtain ⟨A2, n2, c2, rfl⟩ := hv.isSl
  obtain ⟨A3, n3, c3, rfl⟩ := hw.isSl
  exact ⟨_, _, _, _, _, _, _, _, _, rfl⟩
theorem env_isV {lo hi : Nat} {M : Mem} {x : Envl} {vs : List Value} (h : envP.rd lo hi M x vs) : ∃ A1 n1 c1, vs = [iv x.st, .slice A1 n1 c1, iv x.rel] := by
  obtain ⟨u, rfl, hu⟩ := h
  obtain ⟨A1, n1, c1, rfl⟩ := hu.isSl
  exact ⟨_, _, _, rfl⟩
theorem toInstrument_x {M : Mem} {lo hi : Nat} {us : List Value} {x : Inst} (h : instP.rd lo hi M x us) (hb : SmallI x) : ∃ vs N, Det Tryz.prog M.length 10 [.agg us.toArray] M (.agg vs.toArray) (M ++ N) ∧ instP.rd M.length (M ++ N).length (M ++ N) x vs := by
  obtain ⟨ps, es, w, rfl, hp, he, hw⟩ := h
  obtain ⟨A1, n1, c1, A2, n2, c2, A3, n3, c3, rfl⟩ := patch_isV hp
  obtain ⟨A4, n4, c4, rfl⟩ := env_isV he
  obtain ⟨A5, n5, c5, rfl⟩ := hw.isSl
  obtain ⟨v1, N1, d1, r1⟩ := toPatch_x (M := M ++ ([Slot.live ⟨[iv x.pat.inp, .slice A1 n1 c1, .slice A2 n2 c2, .slice A3 n3 c3, iv x.env.st, .slice A4 n4 c4, iv x.env.rel, .slice A5 n5 c5], true, true, 31, 8⟩, .live ⟨[iv 0, .slice none 0 0, .slice none 0 0, .slice none 0 0, iv 0, .slice none 0 0, iv 0, .slice none 0 0], true, true, 44, 8⟩, .live ⟨[iv 0, .slice none 0 0, .slice none 0 0, .slice none 0 0, iv 0, .slice none 0 0, iv 0, .slice none 0 0], true, true, 44, 8⟩] ++ [])) (patchP.app hp _) hb.pat
  obtain ⟨B1, m1, g1, B2, m2, g2, B3, m3, g3, rfl⟩ := patch_isV r1
  obtain ⟨v2, N2, d2, r2⟩ := toEnvelope_x (M := M ++ ([Slot.live ⟨[iv x.pat.inp, .slice A1 n1 c1, .slice A2 n2 c2, .slice A3 n3 c3, iv x.env.st, .slice A4 n4 c4, iv x.env.rel, .slice A5 n5 c5], true, true, 31, 8⟩, .live ⟨[iv 0, .slice none 0 0, .slice none 0 0, .slice none 0 0, iv 0, .slice none 0 0, iv 0, .slice none 0 0], true, true, 44, 8⟩, .live ⟨[iv x.pat.inp, .slice B1 m1 g1, .slice B2 m2 g2, .slice B3 m3 g3, iv 0, .slice none 0 0, iv 0, .slice none 0 0], true, true, 44, 8⟩] ++ N1)) (envP.app he _) hb.segs
  obtain ⟨B4, m4, g4, rfl⟩ := env_isV r2
  obtain ⟨v3, N3, d3, r3⟩ := toInt64S_x (M := M ++ ([Slot.live ⟨[iv x.pat.inp, .slice A1 n1 c1, .slice A2 n2 c2, .slice A3 n3 c3, iv x.env.st, .slice A4 n4 c4, iv x.env.rel, .slice A5 n5 c5], true, true, 31, 8⟩, .live ⟨[iv 0, .slice none 0 0, .slice none 0 0, .slice none 0 0, iv 0, .slice none 0 0, iv 0, .slice none 0 0], true, true, 44, 8⟩, .live ⟨[iv x.pat.inp, .slice B1 m1 g1, .slice B2 m2 g2, .slice B3 m3 g3, iv x.env.st, .slice B4 m4 g4, iv x.env.rel, .slice none 0 0], true, true, 44, 8⟩] ++ (N1 ++ N2))) (hw.app _) hb.steps
  obtain ⟨B5, m5, g5, rfl⟩ := r3.isSl
  refine ⟨[iv x.pat.inp, .slice B1 m1 g1, .slice B2 m2 g2, .slice B3 m3 g3, iv x.env.st, .slice B4 m4 g4, iv x.env.rel, .slice B5 m5 g5], [Slot.live ⟨[iv x.pat.inp, .slice A1 n1 c1, .slice A2 n2 c2, .slice A3 n3 c3, iv x.env.st, .slice A4 n4 c4, iv x.env.rel, .slice A5 n5 c5], true, true, 31, 8⟩, .live ⟨[iv x.pat.inp, .slice B1 m1 g1, .slice B2 m2 g2, .slice B3 m3 g3, iv x.env.st, .slice B4 m4 g4, iv x.env.rel, .slice B5 m5 g5], true, true, 44, 8⟩, .live ⟨[iv x.pat.inp, .slice B1 m1 g1, .slice B2 m2 g2, .slice B3 m3 g3, iv x.env.st, .slice B4 m4 g4, iv x.env.rel, .slice B5 m5 g5], true, true, 44, 8⟩] ++ (N1 ++ (N2 ++ N3)), Ctr.det ?_, ⟨[iv x.pat.inp, .slice B1 m1 g1, .slice B2 m2 g2, .slice B3 m3 g3], [iv x.env.st, .slice B4 m4 g4, iv x.env.rel], .slice B5 m5 g5, rfl, ?_, ?_, ?_⟩⟩
  · first | (refine ctr_fn Tryz.func10 rfl Tryz.ntmps10 Tryz.results10 rfl rfl (by simp) ?_) | (refine ctr_fnC Tryz.func10 rfl Tryz.ntmps10 Tryz.results10 rfl (by simp) ?_)
    simp
    simp at d1 d2 d3
    refine awCall_det' d1 (by simp) ?_
    simp
    refine awCall_det' d2 (by simp) ?_
    simp
    refine awCall_det' d3 (by simp) ?_
    simp
  · exact patchP.boxesG (C := []) (D := N1) (E := N2 ++ N3) r1 rfl
  · exact envP.boxesG (C := N1) (D := N2) (E := N3) r2 rfl
  · have := r3.boxesG (A := [Slot.live ⟨[iv x.pat.inp, .slice A1 n1 c1, .slice A2 n2 c2, .slice A3 n3 c3, iv x.env.st, .slice A4 n4 c4, iv x.env.rel, .slice A5 n5 c5], true, true, 31, 8⟩, .live ⟨[iv x.pat.inp, .slice B1 m1 g1, .slice B2 m2 g2, .slice B3 m3 g3, iv x.env.st, .slice B4 m4 g4, iv x.env.rel, .slice B5 m5 g5], true, true, 44, 8⟩, .live ⟨[iv x.pat.inp, .slice B1 m1 g1, .slice B2 m2 g2, .slice B3 m3 g3, iv x.env.st, .slice B4 m4 g4, iv x.env.rel, .slice B5 m5 g5], true, true, 44, 8⟩]) (E := []) rfl
    simpa using this
theorem eqPatch_x {M : Mem} {lo hi lo' hi' : Nat} {us vs : List Value} {x y : Patch} (h : patchP.rd lo hi M x us) (h' : patchP.rd lo' hi' M y vs) : Det Tryz.prog M.length 48 [.agg us.toArray, .agg vs.toArray] M (.bool (decide (x = y))) M := by
  obtain ⟨u1, u2, u3, rfl, hu1, hu2, hu3⟩ := h
  obtain ⟨A1, n1, c1, rfl⟩ := hu1.isSl
  obtain ⟨A2, n2, c2, rfl⟩ := hu2.isSl
  obtain ⟨A3, n3, c3, rfl⟩ := hu3.isSl
  obtain ⟨v1, v2, v3, rfl, hv1, hv2, hv3⟩ := h'
  obtain ⟨B1, m1, d1, rfl⟩ := hv1.isSl
  obtain ⟨B2, m2, d2, rfl⟩ := hv2.isSl
  obtain ⟨B3, m3, d3, rfl⟩ := hv3.isSl
  first | (refine det_fn Tryz.func48 rfl Tryz.ntmps48 Tryz.results48 rfl rfl rfl (by simp) ?_) | (refine det_fnC Tryz.func48 rfl Tryz.ntmps48 Tryz.results48 rfl rfl (by simp) ?_)
  simp
  by_cases h1 : x.inp = y.inp
  case neg => simp [h1, patch_eq, keeps_app]
  simp [h1]
  refine awCall_det' (eqInt64SS_x (hu1.app _) (hv1.app _)) (by simp) ?_
  by_cases h2 : x.tabs = y.tabs
  case neg => simp [h1, h2, patch_eq, keeps_app]
  simp [h1, h2]
  refine awCall_det' (eqNodeS_x (hu2.app _) (hv2.app _)) (by simp) ?_
  by_cases h3 : x.nodes = y.nodes
  case neg => simp [h1, h2, h3, patch_eq, keeps_app]
  simp [h1, h2, h3]
  refine awCall_det' (eqInt64S_x (hu3.app _) (hv3.app _)) (by simp) ?_
  by_cases h4 : x.outs = y.outs
  · simp [h1, h2, h3, h4, patch_eq, keeps_app]
  · simp [h1, h2, h3, h4, patch_eq, keeps_app]
theorem eqEnvelope_x {M : Mem} {lo hi lo' hi' : Nat} {us vs : List Value} {x y : Envl} (h : envP.rd lo hi M x us) (h' : envP.rd lo' hi' M y vs) (hx : x.segs.length ≤ 1048576) : Det Tryz.prog M.length 49 [.agg us.toArray, .agg vs.toArray] M (.bool (decide (x = y))) M := by
  obtain ⟨u1, rfl, hu1⟩ := h
  obtain ⟨A1, n1, c1, rfl⟩ := hu1.isSl
  obtain ⟨v1, rfl, hv1⟩ := h'
  obtain ⟨B1, m1, d1, rfl⟩ := hv1.isSl
  first | (refine det_fn Tryz.func49 rfl Tryz.ntmps49 Tryz.results49 rfl rfl rfl (by simp) ?_) | (refine det_fnC Tryz.func49 rfl Tryz.ntmps49 Tryz.results49 rfl rfl (by simp) ?_)
  simp
  by_cases h1 : x.st = y.st
  case neg => simp [h1, env_eq, keeps_app]
  simp [h1]
  refine awCall_det' (eqSegmentS_x (hu1.app _) (hv1.app _) hx) (by simp) ?_
  by_cases h2 : x.segs = y.segs
  case neg => simp [h1, h2, env_eq, keeps_app]
  by_cases h3 : x.rel = y.rel
  · simp [h1, h2, h3, env_eq, keeps_app]
  · simp [h1, h2, h3, env_eq, keeps_app]
theorem eqInstrument_x {M : Mem} {lo hi lo' hi' : Nat} {us vs : List Value} {x y : Inst} (h : instP.rd lo hi M x us) (h' : instP.rd lo' hi' M y vs) (hx : x.env.segs.length ≤ 1048576) : Det Tryz.prog M.length 14 [.agg us.toArray, .agg vs.toArray] M (.bool (decide (x = y))) M := by
  obtain ⟨ps, es, w, rfl, hp, he, hw⟩ := h
  obtain ⟨ps', es', w', rfl, hp', he', hw'⟩ := h'
  obtain ⟨A1, n1, c1, A2, n2, c2, A3, n3, c3, rfl⟩ := patch_isV hp
  obtain ⟨A4, n4, c4, rfl⟩ := env_isV he
  obtain ⟨A5, n5, c5, rfl⟩ := hw.isSl
  obtain ⟨B1, m1, g1, B2, m2, g2, B3, m3, g3, rfl⟩ := patch_isV hp'
  obtain ⟨B4, m4, g4, rfl⟩ := env_isV he'
  obtain ⟨B5, m5, g5, rfl⟩ := hw'.isSl
  first | (refine det_fn Tryz.func14 rfl Tryz.ntmps14 Tryz.results14 rfl rfl rfl (by simp) ?_) | (refine det_fnC Tryz.func14 rfl Tryz.ntmps14 Tryz.results14 rfl rfl (by simp) ?_)
  simp
  refine awCall_det' (eqPatch_x (patchP.app hp _) (patchP.app hp' _)) (by simp) ?_
  by_cases h1 : x.pat = y.pat
  case neg => simp [h1, inst_eq, keeps_app]
  simp [h1]
  refine awCall_det' (eqEnvelope_x (envP.app he _) (envP.app he' _) hx) (by simp) ?_
  by_cases h2 : x.env = y.env
  case neg => simp [h1, h2, inst_eq, keeps_app]
  simp [h1, h2]
  refine awCall_det' (eqInt64S_x (hw.app _) (hw'.app _)) (by simp) ?_
  by_cases h3 : x.steps = y.steps
  · simp [h1, h2, h3, inst_eq, keeps_app]
  · simp [h1, h2, h3, inst_eq, keeps_app]
end Go.Proofs.YtimijeeihicohaaGreat

namespace Go.Proofs.YtimijeeihicohaaGreat
open Go.RowKit
set_option linter.unusedVariables false
set_option linter.unusedSimpArgs false
set_option maxRecDepth 100000
attribute [local simp] List.getElem?_cons_zero
attribute [local irreducible] awCond awCall awLoop awDraw ow retQ retC resQ Keeps
def sampleB (x : Int) : Bool := inB x (-2147483648) 2147483647
def areSB (l : List Int) : Bool := l.all sampleB
def idxB (n : Int) (l : List Int) : Bool := l.all fun x => inB x 0 (n - 1)
def tableB (t : List Int) : Bool := (decide (t.length = 2) || decide (t.length = 4) || decide (t.length = 8) || decide (t.length = 16)) && areSB t
def tablesB (ts : List (List Int)) : Bool := ts.all tableB && decide (ts.length ≤ 4)
def segB (s : Segment) : Bool := inB s.tg 0 65536 && inB s.ln 0 4000
def envB (e : Envl) : Bool := e.segs.all segB && inB e.st 0 65536 && inB e.rel 0 4000 && decide (e.segs.length ≤ 8)
theorem all_no {α : Type} [Inhabited α] {p : α → Bool} {l : List α} {k : Nat} (hk : k < l.length) (h : p (el l k) = false) : l.all p = false := by
  cases hh : l.all p with
  | false => rfl
  | true =>
    have := List.all_eq_true.1 hh _ (el_mem hk)
    rw [h] at this; cases this
theorem all_yes {α : Type} [Inhabited α] {p : α → Bool} {l : List α} (h : ∀ i, i < l.length → p (el l i) = true) : l.all p = true := by
  rw [List.all_eq_true]
  intro x hx
  obtain ⟨i, hi, rfl⟩ := List.getElem_of_mem hx
  rw [el_eq hi]
  exact h i hi
theorem areSamples_i {M : Mem} {lo hi : Nat} {u : Value} {l : List Int} (h : SlV intP lo hi M u l) : Det Tryz.prog M.length 119 [u] M (.bool (areSB l)) M := by
  obtain ⟨A, n, c, rfl, h1, h2, h3⟩ := h
  have hl := h3.1
  replace h3 := h3.sl
  first | (refine det_fn Tryz.func119 rfl Tryz.ntmps119 Tryz.results119 rfl rfl rfl (by simp) ?_) | (refine det_fnC Tryz.func119 rfl Tryz.ntmps119 Tryz.results119 rfl rfl (by simp) ?_)
  simp
  refine awLoop_T (fun m T M' => ∃ k : Nat, k + m = n ∧ M' = M ∧ look T 7 = some (iv k) ∧ look T 6 = some (iv n) ∧ look T 5 = some (.slice A n c) ∧ ∀ i, i < k → sampleB (el l i) = true) n ⟨0, by omega, rfl, by simp, by simp, by simp, fun i hi => by omega⟩ ?_
  rintro m T M' ⟨k, hm, rfl, t7, t6, t5, hk⟩
  by_cases hlt : k < n
  · obtain ⟨id, off, rfl, he, hc⟩ := h3.at_ hlt
    have c1 := int_cell hc
    simp only [Nat.mul_one] at c1
    simp (disch := omega) [t7, t6, t5, hlt, c1, he]
    refine awCall_det' (isSample_a (el l k)) (Nat.le_refl _) ?_
    by_cases hs : sampleB (el l k) = true
    · have hs' : inB (el l k) (-2147483648) 2147483647 = true := hs
      simp (disch := omega) [hs', t7, t6, t5, wrap_in]
      refine lpI (m - 1) (by omega) ⟨k + 1, by omega, rfl, by simp, by simp [t6], by simp [t5], fun i hi => ?_⟩
      by_cases e : i = k
      · rw [e]; exact hs
      · exact hk i (by omega)
    · rw [Bool.not_eq_true] at hs
      have hs' : inB (el l k) (-2147483648) 2147483647 = false := hs
      simp [hs']
      exact ⟨all_no (by omega) hs, Keeps.refl _⟩
  · obtain rfl : k = n := by omega
    simp [t7, t6, Keeps.refl]
    exact all_yes fun i hi => hk i (by omega)
theorem areIndices_i {M : Mem} {lo hi : Nat} {u : Value} {l : List Int} (q : Int) (hq : 0 ≤ q) (hq' : q ≤ 9223372036854775807) (h : SlV intP lo hi M u l) : Det Tryz.prog M.length 209 [u, iv q] M (.bool (idxB q l)) M := by
  obtain ⟨A, n, c, rfl, h1, h2, h3⟩ := h
  have hl := h3.1
  replace h3 := h3.sl
  first | (refine det_fn Tryz.func209 rfl Tryz.ntmps209 Tryz.results209 rfl rfl rfl (by simp) ?_) | (refine det_fnC Tryz.func209 rfl Tryz.ntmps209 Tryz.results209 rfl rfl (by simp) ?_)
  simp
  refine awLoop_T (fun m T M' => ∃ k : Nat, k + m = n ∧ M' = M ∧ look T 9 = some (iv k) ∧ look T 8 = some (iv n) ∧ look T 7 = some (.slice A n c) ∧ look T 1 = some (iv q) ∧ ∀ i, i < k → inB (el l i) 0 (q - 1) = true) n ⟨0, by omega, rfl, by simp, by simp, by simp, by simp, fun i hi => by omega⟩ ?_
  rintro m T M' ⟨k, hm, rfl, t7, t6, t5, t1, hk⟩
  by_cases hlt : k < n
  · obtain ⟨id, off, rfl, he, hc⟩ := h3.at_ hlt
    have c1 := int_cell hc
    simp only [Nat.mul_one] at c1
    simp (disch := omega) [t7, t6, t5, t1, hlt, c1, he, wrap_in]
    refine awCall_det' (within_a (el l k) 0 (q - 1)) (Nat.le_refl _) ?_
    by_cases hs : inB (el l k) 0 (q - 1) = true
    · simp (disch := omega) [hs, t7, t6, t5, t1, wrap_in]
      refine lpI (m - 1) (by omega) ⟨k + 1, by omega, rfl, by simp, by simp [t6], by simp [t5], by simp [t1], fun i hi => ?_⟩
      by_cases e : i = k
      · rw [e]; exact hs
      · exact hk i (by omega)
    · rw [Bool.not_eq_true] at hs
      simp [hs]
      exact ⟨all_no (by omega) hs, Keeps.refl _⟩
  · obtain rfl : k = n := by omega
    simp [t7, t6, Keeps.refl]
    exact all_yes fun i hi => hk i (by omega)
theorem areTables_i {M : Mem} {lo hi : Nat} {u : Value} {l : List (List Int)} (h : SlV tabP lo hi M u l) : Det Tryz.prog M.length 208 [u] M (.bool (tablesB l)) M := by
  obtain ⟨A, n, c, rfl, h1, h2, h3⟩ := h
  have hl := h3.1
  first | (refine det_fn Tryz.func208 rfl Tryz.ntmps208 Tryz.results208 rfl rfl rfl (by simp) ?_) | (refine det_fnC Tryz.func208 rfl Tryz.ntmps208 Tryz.results208 rfl rfl (by simp) ?_)
  simp
  refine awLoop_T (fun m T M' => ∃ k : Nat, k + m = n ∧ M' = M ∧ look T 8 = some (iv k) ∧ look T 7 = some (iv n) ∧ look T 6 = some (.slice A n c) ∧ look T 0 = some (.slice A n c) ∧ ∀ i, i < k → tableB (el l i) = true) n ⟨0, by omega, rfl, by simp, by simp, by simp, by simp, fun i hi => by omega⟩ ?_
  rintro m T M' ⟨k, hm, rfl, t8, t7, t6, t0, hk⟩
  by_cases hlt : k < n
  · obtain ⟨id, off, us, rfl, he, ⟨u, rfl, hu⟩, hc⟩ := h3.at_ hlt
    have c1 := (cl_cons.1 hc).1
    simp only [Nat.mul_one] at c1
    obtain ⟨A1, n1, c1', rfl, p1, p2, p3⟩ := (show SlV intP lo hi M' _ _ from hu)
    have hn1 := p3.1
    have no : tableB (el l k) = false → tablesB l = false := fun h => by unfold tablesB; rw [all_no (by omega) h]; rfl
    simp (disch := omega) [t8, t7, t6, t0, hlt, c1, he]
    have key : tableB (el l k) = ((decide (n1 = 2) || decide (n1 = 4) || decide (n1 = 8) || decide (n1 = 16)) && areSB (el l k)) := by unfold tableB; rw [hn1]
    by_cases hsz : n1 = 2 ∨ n1 = 4 ∨ n1 = 8 ∨ n1 = 16
    case neg =>
      have e2 : ¬ n1 = 2 := by omega
      have e4 : ¬ n1 = 4 := by omega
      have e8 : ¬ n1 = 8 := by omega
      have e16 : ¬ n1 = 16 := by omega
      have f2 : ¬ (n1 : Int) = 2 := by omega
      have f4 : ¬ (n1 : Int) = 4 := by omega
      have f8 : ¬ (n1 : Int) = 8 := by omega
      have f16 : ¬ (n1 : Int) = 16 := by omega
      simp [f2, f4, f8, f16]
      exact ⟨no (by rw [key]; simp [e2, e4, e8, e16]), Keeps.refl _⟩
    have hpos : (decide (n1 = 2) || decide (n1 = 4) || decide (n1 = 8) || decide (n1 = 16)) = true := by
      rcases hsz with h | h | h | h <;> simp [h]
    rw [hpos, Bool.true_and] at key
    rcases hsz with h | h | h | h
    all_goals
      subst h
      simp
      refine awCall_det' (areSamples_i hu) (Nat.le_refl _) ?_
      by_cases hs : areSB (el l k) = true
      · simp (disch := omega) [hs, t8, t7, t6, t0, wrap_in]
        refine lpI (m - 1) (by omega) ⟨k + 1, by omega, rfl, by simp, by simp [t7], by simp [t6], by simp [t0], fun i hi => ?_⟩
        by_cases e : i = k
        · rw [e, key]; exact hs
        · exact hk i (by omega)
      · rw [Bool.not_eq_true] at hs
        simp [hs]
        exact ⟨no (by rw [key]; exact hs), Keeps.refl _⟩
  · obtain rfl : k = n := by omega
    simp [t8, t7, t0, Keeps.refl]
    unfold tablesB
    rw [all_yes fun i hi => hk i (by omega), hl]
    by_cases h4 : k ≤ 4 <;> simp [h4] <;> omega
theorem isEnvelope_i {M : Mem} {lo hi : Nat} {us : List Value} {x : Envl} (h : envP.rd lo hi M x us) : Det Tryz.prog M.length 118 [.agg us.toArray] M (.bool (envB x)) M := by
  obtain ⟨u, rfl, hu⟩ := h
  obtain ⟨A, n, c, rfl, h1, h2, h3⟩ := hu
  have hl := h3.1
  replace h3 := h3.sl
  have lev : ∀ {M : Mem} (z : Int), Det Tryz.prog M.length 173 [iv z] M (.bool (inB z 0 65536)) M := fun {M} z => by
    first | (refine det_fn Tryz.func173 rfl Tryz.ntmps173 Tryz.results173 rfl rfl rfl (by simp) ?_) | (refine det_fnC Tryz.func173 rfl Tryz.ntmps173 Tryz.results173 rfl rfl (by simp) ?_)
    simp
    refine awCall_det' (within_a _ _ _) (by simp) ?_
    simp [Keeps.refl]
  first | (refine det_fn Tryz.func118 rfl Tryz.ntmps118 Tryz.results118 rfl rfl rfl (by simp) ?_) | (refine det_fnC Tryz.func118 rfl Tryz.ntmps118 Tryz.results118 rfl rfl (by simp) ?_)
  simp
  obtain ⟨M0, hM0⟩ : ∃ M0 : Mem, M0 = M ++ [Slot.live ⟨[iv x.st, .slice A n c, iv x.rel], true, true, 42, 3⟩] := ⟨_, rfl⟩
  have k0 : Keeps M M0 := by rw [hM0]; exact keeps_app _
  have b0 : cellAt M0 M.length 0 = some (iv x.st) := by rw [hM0]; simp
  have b1 : cellAt M0 M.length 1 = some (.slice A n c) := by rw [hM0]; simp
  have b2 : cellAt M0 M.length 2 = some (iv x.rel) := by rw [hM0]; simp
  have l0 := k0.len
  rw [← hM0]
  clear hM0
  refine awLoop_T (fun m T M' => ∃ k : Nat, k + m = n ∧ Keeps M0 M' ∧ look T 8 = some (iv k) ∧ look T 7 = some (iv n) ∧ look T 6 = some (.slice A n c) ∧ look T 1 = some (.pointer (some ⟨M.length, 0, none⟩)) ∧ ∀ i, i < k → segB (el x.segs i) = true) n ⟨0, by omega, Keeps.refl _, by simp, by simp, by simp, by simp, fun i hi => by omega⟩ ?_
  rintro m T M1 ⟨k, hm, k1, t8, t7, t6, t1, hk⟩
  have k01 := k0.trans k1
  have l1 := k1.len
  by_cases hlt : k < n
  · obtain ⟨id, off, rfl, he, hc⟩ := (h3.keeps k01).at_ hlt
    have no : segB (el x.segs k) = false → envB x = false := fun h => by unfold envB; rw [all_no (by omega) h]; rfl
    simp (disch := omega) [t8, t7, t6, t1, hlt, segment_load hc, he]
    refine awCall_det' (lev (el x.segs k).tg) (by simp; omega) ?_
    by_cases g1 : inB (el x.segs k).tg 0 65536 = true
    · simp (disch := omega) [g1]
      refine awCall_det' (isCount_a (el x.segs k).ln) (by simp; omega) ?_
      by_cases g2 : inB (el x.segs k).ln 0 4000 = true
      · simp (disch := omega) [g2, t8, t7, t6, t1, wrap_in]
        refine lpI (m - 1) (by omega) ⟨k + 1, by omega, k1.app _, by simp, by simp [t7], by simp [t6], by simp [t1], fun i hi => ?_⟩
        by_cases e : i = k
        · rw [e]; unfold segB; rw [g1, g2]; rfl
        · exact hk i (by omega)
      · rw [Bool.not_eq_true] at g2
        simp [g2]
        exact ⟨no (by unfold segB; rw [g2]; simp), k01.app _⟩
    · rw [Bool.not_eq_true] at g1
      simp [g1]
      exact ⟨no (by unfold segB; rw [g1]; rfl), k01.app _⟩
  · obtain rfl : k = n := by omega
    have ha : x.segs.all segB = true := all_yes fun i hi => hk i (by omega)
    simp (disch := omega) [t8, t7, t1, cellAt_keeps k1 b0]
    refine awCall_det' (lev x.st) (by omega) ?_
    by_cases g1 : inB x.st 0 65536 = true
    · simp (disch := omega) [g1, t1, cellAt_keeps k1 b2]
      refine awCall_det' (isCount_a x.rel) (by omega) ?_
      by_cases g2 : inB x.rel 0 4000 = true
      · by_cases g3 : k ≤ 8
        · simp (disch := omega) [g2, t1, cellAt_keeps k1 b1, g3]
          exact ⟨by unfold envB; rw [ha, g1, g2, hl]; simpa using by omega, k01⟩
        · have g3' : ¬ (k : Int) ≤ 8 := by omega
          simp (disch := omega) [g2, t1, cellAt_keeps k1 b1, g3']
          exact ⟨by unfold envB; rw [ha, g1, g2, hl]; simpa using by omega, k01⟩
      · rw [Bool.not_eq_true] at g2
        simp [g2]
        exact ⟨by unfold envB; rw [g2]; simp, k01⟩
    · rw [Bool.not_eq_true] at g1
      simp [g1]
      exact ⟨by unfold envB; rw [g1]; simp, k01⟩
end Go.Proofs.YtimijeeihicohaaGreat

namespace Go.Proofs.YtimijeeihicohaaGreat
open Go.RowKit
set_option linter.unusedVariables false
set_option linter.unusedSimpArgs false
set_option maxRecDepth 100000
attribute [local simp] List.getElem?_cons_zero
attribute [local irreducible] awCond awCall awLoop awDraw ow retQ retC resQ Keeps
structure Kd where
  name : ByteArray
  (inp lo hi : Int)
  (lin hasB : Bool)
instance : Inhabited Kd := ⟨⟨.empty, 0, 0, 0, false, false⟩⟩
def Kd.row (c : Kd) : List Value := [.string c.name, iv c.inp, iv c.lo, iv c.hi, .bool c.lin, .bool c.hasB]
def kdR : RecV Kd 6 := ⟨Kd.row, fun _ => rfl⟩
def kindsL : List Kd := [⟨{ data := #[105, 110, 112, 117, 116] }, 0, 0, 3, true, false⟩, ⟨{ data := #[99, 111, 110, 115, 116] }, 0, (-2147483648), 2147483647, false, false⟩, ⟨{ data := #[97, 100, 100] }, 2, 1, 0, true, false⟩, ⟨{ data := #[115, 117, 98] }, 2, 1, 0, true, false⟩, ⟨{ data := #[103, 97, 105, 110] }, 1, (-2147483648), 2147483647, true, false⟩, ⟨{ data := #[100, 101, 108, 97, 121] }, 1, 1, 16, true, false⟩, ⟨{ data := #[115, 117, 109] }, 1, 1, 0, true, false⟩, ⟨{ data := #[100, 105, 102, 102] }, 1, 1, 0, true, false⟩, ⟨{ data := #[109, 117, 108] }, 2, 1, 0, false, false⟩, ⟨{ data := #[115, 104, 105, 102, 116] }, 1, 0, 31, false, false⟩, ⟨{ data := #[99, 108, 105, 112] }, 1, 0, 2147483647, false, false⟩, ⟨{ data := #[112, 104, 97, 115, 101] }, 1, (-2147483648), 2147483647, false, false⟩, ⟨{ data := #[116, 97, 98, 108, 101] }, 1, 0, 3, false, false⟩, ⟨{ data := #[110, 111, 105, 115, 101] }, 0, (-2147483648), 2147483647, false, false⟩, ⟨{ data := #[115, 101, 108, 101, 99, 116] }, 3, 1, 0, false, false⟩, ⟨{ data := #[104, 111, 108, 100] }, 2, 1, 0, false, false⟩, ⟨{ data := #[99, 111, 109, 98] }, 1, (-2147483648), 2147483647, true, true⟩]
theorem fill_recs {α : Type} {k : Nat} (R : RecV α k) (l : List α) {n : Nat} {z : List Value} (hk : 0 < k) (hn : l.length = n) (hz : z.length = k) : Instr.fill (fun i => some (i * k, k)) (zrow z n).toArray (((l.map fun a => Value.agg (R.row a).toArray).zipIdx 0).map fun x => (x.2, x.1)) = some (cellsL R l).toArray := by
  have hzl : ∀ n, (zrow z n).length = n * k := by
    intro n
    induction n with
    | zero => simp [zrow_zero']
    | succ n ih => rw [zrow_succ, List.length_append, ih, hz, Nat.add_mul]; omega
  have h := Go.Great.fill_whole (s := k) hk (l.map fun a => Value.agg (R.row a).toArray) (zrow z n).toArray (fun v hv => by
    obtain ⟨x, -, rfl⟩ := List.mem_map.1 hv
    show (R.row x).toArray.size = k
    rw [List.size_toArray, R.len]) (by simp [hzl, hn])
  rw [h]
  congr 2
  clear h hn hzl
  induction l with
  | nil => rfl
  | cons a l ih => simp only [List.map_cons, List.flatMap_cons, ih, cellsL_cons]; rfl
theorem kd_build (s : ByteArray) (a b c : Int) (l h : Bool) : Instr.fill (fun x => [(0, 1), (1, 1), (2, 1), (3, 1), (4, 1), (5, 1)][x]?) #[.string .empty, iv 0, iv 0, iv 0, .bool false, .bool false] [(0, .string s), (1, iv a), (2, iv b), (3, iv c), (4, .bool l), (5, .bool h)] = some #[.string s, iv a, iv b, iv c, .bool l, .bool h] := by
  simp [Instr.fill, Value.cells]
theorem kinds_fill : Instr.fill (fun i => some (i * 6, 6)) (zrow [.string .empty, iv 0, iv 0, iv 0, .bool false, .bool false] 17).toArray [(0, .agg #[.string { data := #[105, 110, 112, 117, 116] }, iv 0, iv 0, iv 3, .bool true, .bool false]), (1, .agg #[.string { data := #[99, 111, 110, 115, 116] }, iv 0, iv (-2147483648), iv 2147483647, .bool false, .bool false]), (2, .agg #[.string { data := #[97, 100, 100] }, iv 2, iv 1, iv 0, .bool true, .bool false]), (3, .agg #[.string { data := #[115, 117, 98] }, iv 2, iv 1, iv 0, .bool true, .bool false]), (4, .agg #[.string { data := #[103, 97, 105, 110] }, iv 1, iv (-2147483648), iv 2147483647, .bool true, .bool false]), (5, .agg #[.string { data := #[100, 101, 108, 97, 121] }, iv 1, iv 1, iv 16, .bool true, .bool false]), (6, .agg #[.string { data := #[115, 117, 109] }, iv 1, iv 1, iv 0, .bool true, .bool false]), (7, .agg #[.string { data := #[100, 105, 102, 102] }, iv 1, iv 1, iv 0, .bool true, .bool false]), (8, .agg #[.string { data := #[109, 117, 108] }, iv 2, iv 1, iv 0, .bool false, .bool false]), (9, .agg #[.string { data := #[115, 104, 105, 102, 116] }, iv 1, iv 0, iv 31, .bool false, .bool false]), (10, .agg #[.string { data := #[99, 108, 105, 112] }, iv 1, iv 0, iv 2147483647, .bool false, .bool false]), (11, .agg #[.string { data := #[112, 104, 97, 115, 101] }, iv 1, iv (-2147483648), iv 2147483647, .bool false, .bool false]), (12, .agg #[.string { data := #[116, 97, 98, 108, 101] }, iv 1, iv 0, iv 3, .bool false, .bool false]), (13, .agg #[.string { data := #[110, 111, 105, 115, 101] }, iv 0, iv (-2147483648), iv 2147483647, .bool false, .bool false]), (14, .agg #[.string { data := #[115, 101, 108, 101, 99, 116] }, iv 3, iv 1, iv 0, .bool false, .bool false]), (15, .agg #[.string { data := #[104, 111, 108, 100] }, iv 2, iv 1, iv 0, .bool false, .bool false]), (16, .agg #[.string { data := #[99, 111, 109, 98] }, iv 1, iv (-2147483648), iv 2147483647, .bool true, .bool true])] = some (cellsL kdR kindsL).toArray := by
  have h := fill_recs kdR kindsL (n := 17) (z := [.string .empty, iv 0, iv 0, iv 0, .bool false, .bool false]) (by omega) rfl rfl
  generalize hX : (cellsL kdR kindsL).toArray = X at h ⊢
  clear hX
  simp only [kindsL, List.map_cons, List.map_nil, List.zipIdx_cons, List.zipIdx_nil, kdR, Kd.row, Nat.zero_add, Nat.reduceAdd] at h
  exact h
def hasAB (k : Kd) : Bool := decide (k.lo ≤ k.hi)
def kOf (x : Node) : Kd := el kindsL (x.k - 1).toNat
def numB (k : Kd) (x : Node) : Bool := !((hasAB k && !inB x.a k.lo k.hi) || (!hasAB k && decide (x.a ≠ 0)) || (k.hasB && !inB x.b 1 16) || (!k.hasB && decide (x.b ≠ 0)))
def endB (k : Kd) (x : Node) (t : Int) : Bool := decide ((x.from_.length : Int) = k.inp) && (decide (x.k ≠ 13) || decide (x.a < t))
def nodeB (x : Node) (t : Int) : Bool := inB x.k 1 17 && (numB (kOf x) x && (x.from_.all (fun f => inB f 0 23) && endB (kOf x) x t))
def arityL : List Int := [-1, 0, 0, 2, 2, 1, 1, 1, 1, 2, 1, 1, 1, 1, 0, 3, 2, 1]
def hasAL : List Int := [1, 2, 5, 6, 10, 11, 12, 13, 14, 17]
def aB (x : Node) (t : Int) : Bool := if x.k = 1 then inB x.a 0 3 else if x.k = 6 then inB x.a 1 16 else if x.k = 10 then inB x.a 0 31 else if x.k = 11 then inB x.a 0 2147483647 else if x.k = 13 then inB x.a 0 (min (max t 0) 4 - 1) else if x.k ∈ hasAL then sampleB x.a else decide (x.a = 0)
def nodeB2 (x : Node) (t : Int) : Bool := inB x.k 1 17 && (aB x t && (decide ((x.from_.length : Int) = el arityL x.k.toNat) && (x.from_.all (fun f => inB f 0 23) && if x.k = 17 then inB x.b 1 16 else decide (x.b = 0))))
theorem nodeB_eq (x : Node) (t : Int) : nodeB x t = nodeB2 x t := by
  by_cases hk : inB x.k 1 17 = true
  case neg => simp [nodeB, nodeB2, hk]
  have hr := inB_iff.1 hk
  unfold nodeB nodeB2
  rw [hk, Bool.true_and, Bool.true_and]
  generalize x.from_.all (fun f => inB f 0 23) = F
  obtain ⟨k, a, b, l⟩ := x
  simp only at hr hk ⊢
  have h17 : k = 1 ∨ k = 2 ∨ k = 3 ∨ k = 4 ∨ k = 5 ∨ k = 6 ∨ k = 7 ∨ k = 8 ∨ k = 9 ∨ k = 10 ∨ k = 11 ∨ k = 12 ∨ k = 13 ∨ k = 14 ∨ k = 15 ∨ k = 16 ∨ k = 17 := by omega
  clear hr hk
  cases F
  · simp
  rcases h17 with h | h | h | h | h | h | h | h | h | h | h | h | h | h | h | h | h
  all_goals
    subst h
    simp only [numB, endB, kOf, hasAB, aB, kindsL, arityL, hasAL, el, sampleB]
    generalize (l.length : Int) = n
    simp
    rw [Bool.eq_iff_iff]
    simp [inB_iff]
    try omega
theorem kinds_i {M : Mem} : Det Tryz.prog M.length 229 [] M (.slice (some ⟨M.length, 0, none⟩) 17 17) (M ++ [.live ⟨cellsL kdR kindsL, true, true, 264, 6⟩]) := by
  refine Ctr.det ?_
  first | (refine ctr_fn Tryz.func229 rfl Tryz.ntmps229 Tryz.results229 rfl rfl (by simp) ?_) | (refine ctr_fnC Tryz.func229 rfl Tryz.ntmps229 Tryz.results229 rfl (by simp) ?_)
  simp [kd_build]
  rw [kinds_fill, ow_some]
  simp
end Go.Proofs.YtimijeeihicohaaGreat

namespace Go.Proofs.YtimijeeihicohaaGreat
open Go.RowKit
set_option linter.unusedVariables false
set_option linter.unusedSimpArgs false
set_option maxRecDepth 100000
attribute [local simp] List.getElem?_cons_zero
attribute [local irreducible] awCond awCall awLoop awDraw ow retQ retC resQ Keeps
theorem hasA_i {M : Mem} (k : Kd) : Det Tryz.prog M.length 230 [.agg #[.string k.name, iv k.inp, iv k.lo, iv k.hi, .bool k.lin, .bool k.hasB]] M (.bool (hasAB k)) M := by
  first | (refine det_fn Tryz.func230 rfl Tryz.ntmps230 Tryz.results230 rfl rfl rfl (by simp) ?_) | (refine det_fnC Tryz.func230 rfl Tryz.ntmps230 Tryz.results230 rfl rfl (by simp) ?_)
  simp [hasAB, keeps_app]
theorem kinds_at {M : Mem} {id i : Nat} {t o : Bool} {e : TypeId} (h : M[id]? = some (.live ⟨cellsL kdR kindsL, o, t, e, 6⟩)) (hi : i < 17) : Cl M id (i * 6) (kdR.row (el kindsL i)) := fun j x hx => by
  simp only [cellAt, h]
  have hj : j < 6 := by have := (List.getElem?_eq_some_iff.1 hx).1; rwa [kdR.len] at this
  show (cellsL kdR kindsL)[i * 6 + j]? = some x
  rw [cellsL_get kdR (show i < kindsL.length from hi) hj]
  exact hx
theorem cells_hrI {M : Mem} {id off n : Nat} {r : Row} (h : M[id]? = some (.live r)) (hn : off + n ≤ r.cells.length) : cellsAt M id off n = some ((r.cells.drop off).take n) := by
  simp [cellsAt, h, hn]
set_option maxHeartbeats 4000000 in
theorem isNode_i {M : Mem} {lo hi : Nat} {us : List Value} {x : Node} (t : Int) (h : nodeP.rd lo hi M x us) : Det Tryz.prog M.length 210 [.agg us.toArray, iv t] M (.bool (nodeB x t)) M := by
  obtain ⟨u, rfl, hu⟩ := h
  obtain ⟨A, n, c, rfl, h1, h2, h3⟩ := hu
  have hl := h3.1
  replace h3 := h3.sl
  first | (refine det_fn Tryz.func210 rfl Tryz.ntmps210 Tryz.results210 rfl rfl rfl (by simp) ?_) | (refine det_fnC Tryz.func210 rfl Tryz.ntmps210 Tryz.results210 rfl rfl (by simp) ?_)
  simp
  have kind : ∀ {M : Mem} (z : Int), Det Tryz.prog M.length 228 [iv z] M (.bool (inB z 1 17)) M := fun {M} z => by
    first | (refine det_fn Tryz.func228 rfl Tryz.ntmps228 Tryz.results228 rfl rfl rfl (by simp) ?_) | (refine det_fnC Tryz.func228 rfl Tryz.ntmps228 Tryz.results228 rfl rfl (by simp) ?_)
    simp
    refine awCall_det' (within_a _ _ _) (by simp) ?_
    simp [Keeps.refl]
  refine awCall_det' (kind x.k) (by simp) ?_
  by_cases hk : inB x.k 1 17 = true
  case neg =>
    rw [Bool.not_eq_true] at hk
    simp [hk, keeps_app]
    unfold nodeB; rw [hk]; rfl
  have hkr := inB_iff.1 hk
  simp [hk]
  refine awDraw_D 7 [[],[],[1],[2,1],[0,3,2,1],[4,0,3,2,1],[],[6,5,4,0,3,2,1]] (by kernel_rfl) (by decide +kernel) ?_
  simp
  have hw : IntKind.i64.wrap (x.k - 1) = (((x.k - 1).toNat : Nat) : Int) := by rw [wrap_in (by omega) (by omega)]; omega
  obtain ⟨i, hi⟩ : ∃ i : Nat, i = (x.k - 1).toNat := ⟨_, rfl⟩
  rw [← hi] at hw
  have hi17 : i < 17 := by omega
  obtain ⟨M1, hM1⟩ : ∃ M1 : Mem, M1 = M ++ [Slot.live ⟨[iv x.k, iv x.a, iv x.b, .slice A n c], true, true, 198, 4⟩] ++ [.live ⟨cellsL kdR kindsL, true, true, 264, 6⟩] := ⟨_, rfl⟩
  have hd := kinds_i (M := M ++ [Slot.live ⟨[iv x.k, iv x.a, iv x.b, .slice A n c], true, true, 198, 4⟩])
  refine awCall_det' hd (by simp) ?_
  have r1 : M1[M.length + 1]? = some (.live ⟨cellsL kdR kindsL, true, true, 264, 6⟩) := by rw [hM1]; simp
  have hlen : (cellsL kdR kindsL).length = 102 := by rw [cellsL_len]; rfl
  have ht : List.take 6 (List.drop (i * 6) (cellsL kdR kindsL)) = (el kindsL i).row := by
    have hc := kinds_at r1 hi17
    have hload := cellsAt_of (n := 6) hc (kdR.len _) (by omega)
    rw [cells_hrI r1 (by rw [hlen]; omega)] at hload
    injection hload
  have hq : el kindsL i = kOf x := by unfold kOf; rw [hi]
  rw [hq] at ht
  clear hM1 r1 M1
  generalize cellsL kdR kindsL = kc at *
  have hi17' : (i : Int) < 17 := by omega
  have hi6 : i * 6 + 6 ≤ 102 := by omega
  have key : nodeB x t = (numB (kOf x) x && (x.from_.all (fun f => inB f 0 23) && endB (kOf x) x t)) := by unfold nodeB; rw [hk, Bool.true_and]
  rw [key]
  clear key hq
  generalize kOf x = q at *
  simp (disch := omega) [hw, hi17', hi6, ht, hlen, Kd.row]
  refine awCall_det' (hasA_i q) (by simp) ?_
  have bad : numB q x = false → (numB q x && (x.from_.all (fun f => inB f 0 23) && endB q x t)) = false := fun h => by rw [h]; rfl
  generalize hB : (numB q x && (x.from_.all (fun f => inB f 0 23) && endB q x t)) = B at bad ⊢
  by_cases ha : hasAB q = true
  case' neg =>
    rw [Bool.not_eq_true] at ha
    simp [ha]
    refine awCall_det' (hasA_i q) (by simp) ?_
    simp [ha]
    by_cases g2 : x.a = 0
    case neg =>
      simp [g2]
      exact ⟨bad (by unfold numB; simp [ha, g2]), keeps_app _⟩
    simp [g2]
  case' pos =>
    simp [ha]
    refine awCall_det' (within_a x.a q.lo q.hi) (by simp) ?_
    by_cases g1 : inB x.a q.lo q.hi = true
    case neg =>
      rw [Bool.not_eq_true] at g1
      simp [g1]
      exact ⟨bad (by unfold numB; simp [ha, g1]), keeps_app _⟩
    simp [g1]
    refine awCall_det' (hasA_i q) (by simp) ?_
    simp [ha]
  all_goals
    by_cases hb : q.hasB = true
    case' neg =>
      rw [Bool.not_eq_true] at hb
      simp [hb]
      by_cases g4 : x.b = 0
      case neg =>
        simp [g4]
        exact ⟨bad (by unfold numB; simp [hb, g4]), keeps_app _⟩
      simp [g4]
    case' pos =>
      simp [hb]
      refine awCall_det' (within_a x.b 1 16) (by simp) ?_
      by_cases g3 : inB x.b 1 16 = true
      case neg =>
        rw [Bool.not_eq_true] at g3
        simp [g3]
        exact ⟨bad (by unfold numB; simp [hb, g3]), keeps_app _⟩
      simp [g3]
  all_goals
    have hnum : numB q x = true := by unfold numB; simp [*]
    rw [hnum, Bool.true_and] at hB
    clear bad hnum
    obtain ⟨M0, hM0⟩ : ∃ M0 : Mem, M0 = M ++ [Slot.live ⟨[iv x.k, iv x.a, iv x.b, .slice A n c], true, true, 198, 4⟩, .live ⟨kc, true, true, 264, 6⟩, .live ⟨[.string q.name, iv q.inp, iv q.lo, iv q.hi, .bool q.lin, .bool q.hasB], true, true, 264, 6⟩] := ⟨_, rfl⟩
    have k0 : Keeps M M0 := by rw [hM0]; exact keeps_app _
    have b0 : cellAt M0 M.length 0 = some (iv x.k) := by rw [hM0]; simp
    have b1 : cellAt M0 M.length 1 = some (iv x.a) := by rw [hM0]; simp
    have b3 : cellAt M0 M.length 3 = some (.slice A n c) := by rw [hM0]; simp
    have q1 : cellAt M0 (M.length + 2) 1 = some (iv q.inp) := by rw [hM0]; simp
    have l0 := k0.len
    refine awLoop_T (fun m T M' => ∃ k : Nat, k + m = n ∧ M' = M0 ∧ look T 63 = some (iv k) ∧ look T 62 = some (iv n) ∧ look T 61 = some (.slice A n c) ∧ look T 5 = some (.pointer (some ⟨M.length + 2, 0, none⟩)) ∧ look T 2 = some (.pointer (some ⟨M.length, 0, none⟩)) ∧ look T 1 = some (iv t) ∧ ∀ i, i < k → inB (el x.from_ i) 0 23 = true) n ⟨0, by omega, by rw [hM0]; simp [*], by simp, by simp, by simp, by simp, by simp, by simp, fun i hi => by omega⟩ ?_
    clear hM0
    rintro m T M' ⟨k, hm, rfl, t63, t62, t61, t5, t2, t1, hkk⟩
    by_cases hlt : k < n
    · obtain ⟨id, off, rfl, he, hc⟩ := (h3.keeps k0).at_ hlt
      have c1 := int_cell hc
      simp only [Nat.mul_one] at c1
      simp (disch := omega) [t63, t62, t61, hlt, c1, he]
      refine awCall_det' (within_a (el x.from_ k) 0 23) (by omega) ?_
      by_cases hs : inB (el x.from_ k) 0 23 = true
      · simp (disch := omega) [hs, t63, t62, t61, wrap_in]
        refine lpI (m - 1) (by omega) ⟨k + 1, by omega, rfl, by simp, by simp [t62], by simp [t61], by simp [t5], by simp [t2], by simp [t1], fun i hi => ?_⟩
        by_cases e : i = k
        · rw [e]; exact hs
        · exact hkk i (by omega)
      · rw [Bool.not_eq_true] at hs
        simp [hs]
        exact ⟨by rw [← hB, all_no (p := fun f => inB f 0 23) (show k < x.from_.length by omega) hs]; rfl, k0⟩
    · obtain rfl : k = n := by omega
      have hall : x.from_.all (fun f => inB f 0 23) = true := all_yes fun i hi => hkk i (by omega)
      rw [hall, Bool.true_and] at hB
      have hsize : Det Tryz.prog M'.length 155 [.slice A k c] M' (iv k) M' := by
        first | (refine det_fn Tryz.func155 rfl Tryz.ntmps155 Tryz.results155 rfl rfl rfl (by simp) ?_) | (refine det_fnC Tryz.func155 rfl Tryz.ntmps155 Tryz.results155 rfl rfl (by simp) ?_)
        simp [Keeps.refl]
      simp (disch := omega) [t63, t62]
      refine awDraw_E 14 [[],[0],[1,0],[],[3],[2,1,0,4,3],[5,2,1,0,4,3],[6,5,2,1,0,4,3],[7,6,5,2,1,0,4,3],[8,7,6,5,2,1,0,4,3],[9,8,7,6,5,2,1,0,4,3],[10,9,8,7,6,5,2,1,0,4,3],[11,10,9,8,7,6,5,2,1,0,4,3],[10,9,8,7,6,5,2,1,0,4,3],[12,11,10,9,8,7,6,5,2,1,0,4,3,13],[10,9,8,7,6,5,2,1,0,4,3,14,12,11,13],[6,5,2,1,0,4,3,15,10,9,8,7,14,12,11,13],[16,6,5,2,1,0,4,3,15,10,9,8,7,14,12,11,13]] (by kernel_rfl) (by kernel_rfl) ?_
      simp (disch := omega) [t2, t5, t1, b0, b1, b3, q1]
      refine awCall_det' hsize (by omega) ?_
      by_cases e1 : (k : Int) = q.inp
      case neg =>
        simp (disch := omega) [t2, t5, t1, b0, b1, b3, q1, e1]
        exact ⟨by rw [← hB]; unfold endB; rw [hl]; simp [e1], k0⟩
      by_cases e2 : x.k = 13
      case neg =>
        simp (disch := omega) [t2, t5, t1, b0, b1, b3, q1, e1, e2]
        exact ⟨by rw [← hB]; unfold endB; rw [hl]; simp [e1, e2], k0⟩
      by_cases e3 : x.a < t
      · simp (disch := omega) [t2, t5, t1, b0, b1, b3, q1, e1, e2, e3]
        exact ⟨by rw [← hB]; unfold endB; rw [hl]; simp [e1, e2, e3], k0⟩
      · simp (disch := omega) [t2, t5, t1, b0, b1, b3, q1, e1, e2, e3]
        exact ⟨by rw [← hB]; unfold endB; rw [hl]; simp [e1, e2, e3], k0⟩
end Go.Proofs.YtimijeeihicohaaGreat
