/- Patches, envelopes, instruments: the laws' helpers. No conditions. -/
import Derived.Test.YtffbocbjmhkikaaN6
namespace Go.Proofs.Ytffbocbjmhkikaa
open Go.RowKit
set_option linter.unusedVariables false
set_option linter.unusedSimpArgs false
set_option maxRecDepth 100000
attribute [local simp] List.getElem?_cons_zero
attribute [local irreducible] awCond awCall awLoop awDraw ow retQ retC resQ Keeps
section
variable {α : Type} {k : Nat} [Inhabited α] {P : RecP α k}
omit [Inhabited α] in
theorem agree_mid2 {M A B C D E : Mem} {lo hi : Nat} (h : B.length = A.length) (hm : M.length + A.length ≤ lo) : Agree lo hi (M ++ (B ++ C) ++ D) (M ++ (A ++ (C ++ (D ++ E)))) := fun i s h1 h2 hs => by
  have e1 : M ++ (B ++ C) ++ D = M ++ (B ++ (C ++ D)) := by simp
  have e2 : M ++ (A ++ (C ++ (D ++ E))) = M ++ (A ++ (C ++ D)) ++ E := by simp
  rw [e1, List.getElem?_append_right (by omega), List.getElem?_append_right (by omega), h] at hs
  rw [e2, List.getElem?_append_left (by have := (List.getElem?_eq_some_iff.1 hs).1; simp at *; omega), List.getElem?_append_right (by omega), List.getElem?_append_right (by omega)]
  exact hs
/-- Rows ahead of a value's own rows have turned; more lie behind. -/
theorem SlV.boxesG {M A B C D E : Mem} {u : Value} {l : List α} (h : SlV P (M ++ (B ++ C)).length (M ++ (B ++ C) ++ D).length (M ++ (B ++ C) ++ D) u l) (hl : B.length = A.length) : SlV P M.length (M ++ (A ++ (C ++ (D ++ E)))).length (M ++ (A ++ (C ++ (D ++ E)))) u l :=
  (h.agree (agree_mid2 hl (by simp; omega))).wide (by simp) (by simp; omega)
omit [Inhabited α] in
theorem RecP.boxesG (P : RecP α k) {M A B C D E : Mem} {vs : List Value} {x : α} (h : P.rd (M ++ (B ++ C)).length (M ++ (B ++ C) ++ D).length (M ++ (B ++ C) ++ D) x vs) (hl : B.length = A.length) : P.rd M.length (M ++ (A ++ (C ++ (D ++ E)))).length (M ++ (A ++ (C ++ (D ++ E)))) x vs :=
  P.wide (P.agree h (agree_mid2 hl (by simp; omega))) (by simp) (by simp; omega)
end
def wtSegmentS (l : List Segment) : Nat := l.length
theorem szSegmentS_x {M : Mem} {lo hi : Nat} {u : Value} {l : List Segment} {z : Int} (h : SlV segP lo hi M u l) (hz : 0 ≤ z) (hz1 : z ≤ 1048576) : Det Try.prog M.length 96 [u, iv z] M (iv (if z - wtSegmentS l < 0 then -1 else z - wtSegmentS l)) M := by
  obtain ⟨A, n, c, rfl, h1, h2, h3⟩ := h
  rw [show wtSegmentS l = n from h3.1]
  exact szSegmentS_a z hz hz1 h1
theorem toSegmentS_x {M : Mem} {lo hi : Nat} {u : Value} {l : List Segment} (h : SlV segP lo hi M u l) (hn : l.length ≤ 1048576) : ∃ v N, Det Try.prog M.length 99 [u] M v (M ++ N) ∧ SlV segP M.length (M ++ N).length (M ++ N) v l := by
  obtain ⟨A, n, c, rfl, h1, h2, h3⟩ := h
  have hl := h3.1
  refine ⟨_, _, toSegmentS_d h3.sl (by omega), _, n, n, rfl, h1, (fun h => by cases h), SlP.of_sl ⟨hl, fun _ => ⟨M.length, 0, rfl, by simp [rowEsz], fun j x hx => by simp [cellAt, hx]⟩⟩ fun a e _ => ?_⟩
  injection e with e
  subst e
  exact ⟨Nat.le_refl _, by simp⟩
theorem eqSegmentS_x {M : Mem} {lo hi lo' hi' : Nat} {u v : Value} {x y : List Segment} (h : SlV segP lo hi M u x) (h' : SlV segP lo' hi' M v y) (hx : x.length ≤ 1048576) : Det Try.prog M.length 103 [u, v] M (.bool (decide (x = y))) M := by
  obtain ⟨A, n, c, rfl, h1, h2, h3⟩ := h
  obtain ⟨B, m, d, rfl, g1, g2, g3⟩ := h'
  exact eqSegmentS_a h3.sl g3.sl (by have := h3.1; omega)
theorem patch_eq {a b : Patch} : a = b ↔ a.inp = b.inp ∧ a.tabs = b.tabs ∧ a.nodes = b.nodes ∧ a.outs = b.outs := by
  cases a; cases b; simp
theorem env_eq {a b : Envl} : a = b ↔ a.st = b.st ∧ a.segs = b.segs ∧ a.rel = b.rel := by
  cases a; cases b; simp
theorem inst_eq {a b : Inst} : a = b ↔ a.pat = b.pat ∧ a.env = b.env ∧ a.steps = b.steps := by
  cases a; cases b; simp
/-- No list is long. -/
structure SmallP (p : Patch) : Prop where
  tabs : p.tabs.length ≤ 1048576
  tab : ∀ x, x ∈ p.tabs → x.length ≤ 1048576
  nodes : p.nodes.length ≤ 1048576
  node : ∀ x, x ∈ p.nodes → x.from_.length ≤ 1048576
  outs : p.outs.length ≤ 1048576
structure SmallI (i : Inst) : Prop where
  pat : SmallP i.pat
  segs : i.env.segs.length ≤ 1048576
  steps : i.steps.length ≤ 1048576
def wtPatch (p : Patch) : Nat := wtInt64SS p.tabs + wtNodeS p.nodes + wtInt64S p.outs
theorem szPatch_x {M : Mem} {lo hi : Nat} {us : List Value} {x : Patch} {z : Int} (h : patchP.rd lo hi M x us) (hz : 0 ≤ z) (hz1 : z ≤ 1048576) : Det Try.prog M.length 45 [.agg us.toArray, iv z] M (iv (if z - wtPatch x < 0 then -1 else z - wtPatch x)) M := by
  obtain ⟨u, v, w, rfl, hu, hv, hw⟩ := h
  obtain ⟨A1, n1, c1, rfl⟩ := hu.isSl
  obtain ⟨A2, n2, c2, rfl⟩ := hv.isSl
  obtain ⟨A3, n3, c3, rfl⟩ := hw.isSl
  have e : wtPatch x = wtInt64SS x.tabs + wtNodeS x.nodes + wtInt64S x.outs := rfl
  rw [e]
  first | (refine det_fn Try.func45 rfl Try.ntmps45 Try.results45 rfl rfl rfl (by simp) ?_) | (refine det_fnC Try.func45 rfl Try.ntmps45 Try.results45 rfl rfl (by simp) ?_)
  simp
  refine awCall_det' (szInt64SS_x (hu.app _) hz hz1) (by simp) ?_
  by_cases g1 : z - wtInt64SS x.tabs < 0
  · simp [g1]
    exact ⟨fun h => by omega, keeps_app _⟩
  simp [g1]
  refine awCall_det' (szNodeS_x (hv.app _) (by omega) (by omega)) (by simp) ?_
  by_cases g2 : z - wtInt64SS x.tabs - wtNodeS x.nodes < 0
  · simp [g2]
    exact ⟨fun h => by omega, keeps_app _⟩
  simp [g2]
  refine awCall_det' (szInt64S_x (hw.app _) (by omega) (by omega)) (by simp) ?_
  by_cases g3 : z - wtInt64SS x.tabs - wtNodeS x.nodes - wtInt64S x.outs < 0
  · simp [g3]
    exact ⟨fun h => by omega, keeps_app _⟩
  simp [g3]
  refine ⟨?_, keeps_app _⟩
  rw [if_neg (by omega)]
  omega
theorem wtPatch_small {p : Patch} {z : Int} (h : ¬ z - wtPatch p < 0) (hz : z ≤ 1048576) : SmallP p := by
  have e : wtInt64S p.outs = p.outs.length := rfl
  unfold wtPatch wtInt64SS wtNodeS at h
  rw [e] at h
  refine ⟨by omega, fun x hx => ?_, by omega, fun x hx => ?_, by omega⟩
  · have : x.length ≤ sumW wtInt64S p.tabs p.tabs.length := sumW_mem wtInt64S hx
    omega
  · have : x.from_.length ≤ sumW wtNode p.nodes p.nodes.length := sumW_mem wtNode hx
    omega
def wtEnvl (p : Envl) : Nat := wtSegmentS p.segs
theorem szEnvelope_x {M : Mem} {lo hi : Nat} {us : List Value} {x : Envl} {z : Int} (h : envP.rd lo hi M x us) (hz : 0 ≤ z) (hz1 : z ≤ 1048576) : Det Try.prog M.length 46 [.agg us.toArray, iv z] M (iv (if z - wtEnvl x < 0 then -1 else z - wtEnvl x)) M := by
  obtain ⟨u, rfl, hu⟩ := h
  obtain ⟨A1, n1, c1, rfl⟩ := hu.isSl
  have e : wtEnvl x = wtSegmentS x.segs := rfl
  rw [e]
  first | (refine det_fn Try.func46 rfl Try.ntmps46 Try.results46 rfl rfl rfl (by simp) ?_) | (refine det_fnC Try.func46 rfl Try.ntmps46 Try.results46 rfl rfl (by simp) ?_)
  simp
  refine awCall_det' (szSegmentS_x (hu.app _) hz hz1) (by simp) ?_
  by_cases g1 : z - wtSegmentS x.segs < 0
  · simp [g1, keeps_app]
  · simp [g1, keeps_app]
def wtInst (i : Inst) : Nat := wtPatch i.pat + wtEnvl i.env + wtInt64S i.steps
theorem szInstrument_x {M : Mem} {lo hi : Nat} {us : List Value} {x : Inst} {z : Int} (h : instP.rd lo hi M x us) (hz : 0 ≤ z) (hz1 : z ≤ 1048576) : Det Try.prog M.length 10 [.agg us.toArray, iv z] M (iv (if z - wtInst x < 0 then -1 else z - wtInst x)) M := by
  obtain ⟨ps, es, w, rfl, hp, he, hw⟩ := h
  obtain ⟨A3, n3, c3, rfl⟩ := hw.isSl
  have e : wtInst x = wtPatch x.pat + wtEnvl x.env + wtInt64S x.steps := rfl
  rw [e]
  obtain ⟨u1, u2, u3, rfl, q1, q2, q3⟩ := id hp
  obtain ⟨B1, m1, d1, rfl⟩ := q1.isSl
  obtain ⟨B2, m2, d2, rfl⟩ := q2.isSl
  obtain ⟨B3, m3, d3, rfl⟩ := q3.isSl
  obtain ⟨u4, rfl, q4⟩ := id he
  obtain ⟨B4, m4, d4, rfl⟩ := q4.isSl
  first | (refine det_fn Try.func10 rfl Try.ntmps10 Try.results10 rfl rfl rfl (by simp) ?_) | (refine det_fnC Try.func10 rfl Try.ntmps10 Try.results10 rfl rfl (by simp) ?_)
  simp
  refine awCall_det' (szPatch_x (patchP.app hp _) hz hz1) (by simp) ?_
  by_cases g1 : z - wtPatch x.pat < 0
  · simp [g1]
    exact ⟨fun h => by omega, keeps_app _⟩
  simp [g1]
  refine awCall_det' (szEnvelope_x (envP.app he _) (by omega) (by omega)) (by simp) ?_
  by_cases g2 : z - wtPatch x.pat - wtEnvl x.env < 0
  · simp [g2]
    exact ⟨fun h => by omega, keeps_app _⟩
  simp [g2]
  refine awCall_det' (szInt64S_x (hw.app _) (by omega) (by omega)) (by simp) ?_
  by_cases g3 : z - wtPatch x.pat - wtEnvl x.env - wtInt64S x.steps < 0
  · simp [g3]
    exact ⟨fun h => by omega, keeps_app _⟩
  simp [g3]
  refine ⟨?_, keeps_app _⟩
  rw [if_neg (by omega)]
  omega
theorem wtInst_small {i : Inst} {z : Int} (h : ¬ z - wtInst i < 0) (hz : z ≤ 1048576) : SmallI i := by
  unfold wtInst at h
  have h1 : ¬ z - wtPatch i.pat < 0 := by omega
  unfold wtEnvl wtSegmentS wtInt64S at h
  exact ⟨wtPatch_small h1 hz, by omega, by omega⟩
theorem toPatch_x {M : Mem} {lo hi : Nat} {us : List Value} {x : Patch} (h : patchP.rd lo hi M x us) (hb : SmallP x) : ∃ vs N, Det Try.prog M.length 51 [.agg us.toArray] M (.agg vs.toArray) (M ++ N) ∧ patchP.rd M.length (M ++ N).length (M ++ N) x vs := by
  obtain ⟨u, v, w, rfl, hu, hv, hw⟩ := h
  obtain ⟨A1, n1, c1, rfl⟩ := hu.isSl
  obtain ⟨A2, n2, c2, rfl⟩ := hv.isSl
  obtain ⟨A3, n3, c3, rfl⟩ := hw.isSl
  obtain ⟨v1, N1, d1, r1⟩ := toInt64SS_x (M := M ++ ([Slot.live ⟨[iv x.inp, .slice A1 n1 c1, .slice A2 n2 c2, .slice A3 n3 c3], true, true, 26, 4⟩, .live ⟨[iv 0, .slice none 0 0, .slice none 0 0, .slice none 0 0], true, true, 36, 4⟩, .live ⟨[iv x.inp, .slice none 0 0, .slice none 0 0, .slice none 0 0], true, true, 36, 4⟩] ++ [])) (hu.app _) hb.tabs hb.tab
  obtain ⟨B1, m1, e1, rfl⟩ := r1.isSl
  obtain ⟨v2, N2, d2, r2⟩ := toNodeS_x (M := M ++ ([Slot.live ⟨[iv x.inp, .slice A1 n1 c1, .slice A2 n2 c2, .slice A3 n3 c3], true, true, 26, 4⟩, .live ⟨[iv 0, .slice none 0 0, .slice none 0 0, .slice none 0 0], true, true, 36, 4⟩, .live ⟨[iv x.inp, .slice B1 m1 e1, .slice none 0 0, .slice none 0 0], true, true, 36, 4⟩] ++ N1)) (hv.app _) hb.nodes hb.node
  obtain ⟨B2, m2, e2, rfl⟩ := r2.isSl
  obtain ⟨v3, N3, d3, r3⟩ := toInt64S_x (M := M ++ ([Slot.live ⟨[iv x.inp, .slice A1 n1 c1, .slice A2 n2 c2, .slice A3 n3 c3], true, true, 26, 4⟩, .live ⟨[iv 0, .slice none 0 0, .slice none 0 0, .slice none 0 0], true, true, 36, 4⟩, .live ⟨[iv x.inp, .slice B1 m1 e1, .slice B2 m2 e2, .slice none 0 0], true, true, 36, 4⟩] ++ (N1 ++ N2))) (hw.app _) hb.outs
  obtain ⟨B3, m3, e3, rfl⟩ := r3.isSl
  refine ⟨[iv x.inp, .slice B1 m1 e1, .slice B2 m2 e2, .slice B3 m3 e3], [.live ⟨[iv x.inp, .slice A1 n1 c1, .slice A2 n2 c2, .slice A3 n3 c3], true, true, 26, 4⟩, .live ⟨[iv x.inp, .slice B1 m1 e1, .slice B2 m2 e2, .slice B3 m3 e3], true, true, 36, 4⟩, .live ⟨[iv x.inp, .slice B1 m1 e1, .slice B2 m2 e2, .slice B3 m3 e3], true, true, 36, 4⟩] ++ (N1 ++ (N2 ++ N3)), Ctr.det ?_, ⟨_, _, _, rfl, ?_, ?_, ?_⟩⟩
  · first | (refine ctr_fn Try.func51 rfl Try.ntmps51 Try.results51 rfl rfl (by simp) ?_) | (refine ctr_fnC Try.func51 rfl Try.ntmps51 Try.results51 rfl (by simp) ?_)
    simp
    simp at d1 d2 d3
    refine awCall_det' d1 (by simp) ?_
    simp
    refine awCall_det' d2 (by simp) ?_
    simp
    refine awCall_det' d3 (by simp) ?_
    simp
  · exact r1.boxesG rfl
  · exact r2.boxesG rfl
  · have := r3.boxesG (A := [.live ⟨[iv x.inp, .slice A1 n1 c1, .slice A2 n2 c2, .slice A3 n3 c3], true, true, 26, 4⟩, .live ⟨[iv x.inp, .slice B1 m1 e1, .slice B2 m2 e2, .slice B3 m3 e3], true, true, 36, 4⟩, .live ⟨[iv x.inp, .slice B1 m1 e1, .slice B2 m2 e2, .slice B3 m3 e3], true, true, 36, 4⟩]) (E := []) rfl
    simpa using this
theorem toEnvelope_x {M : Mem} {lo hi : Nat} {us : List Value} {x : Envl} (h : envP.rd lo hi M x us) (hb : x.segs.length ≤ 1048576) : ∃ vs N, Det Try.prog M.length 52 [.agg us.toArray] M (.agg vs.toArray) (M ++ N) ∧ envP.rd M.length (M ++ N).length (M ++ N) x vs := by
  obtain ⟨u, rfl, hu⟩ := h
  obtain ⟨A1, n1, c1, rfl⟩ := hu.isSl
  obtain ⟨v1, N1, d1, r1⟩ := toSegmentS_x (M := M ++ [Slot.live ⟨[iv x.st, .slice A1 n1 c1, iv x.rel], true, true, 29, 3⟩, .live ⟨[iv 0, .slice none 0 0, iv 0], true, true, 39, 3⟩, .live ⟨[iv x.st, .slice none 0 0, iv 0], true, true, 39, 3⟩]) (hu.app _) hb
  obtain ⟨B1, m1, e1, rfl⟩ := r1.isSl
  refine ⟨[iv x.st, .slice B1 m1 e1, iv x.rel], [.live ⟨[iv x.st, .slice A1 n1 c1, iv x.rel], true, true, 29, 3⟩, .live ⟨[iv x.st, .slice B1 m1 e1, iv x.rel], true, true, 39, 3⟩, .live ⟨[iv x.st, .slice B1 m1 e1, iv x.rel], true, true, 39, 3⟩] ++ N1, Ctr.det ?_, ⟨_, rfl, r1.boxes rfl⟩⟩
  first | (refine ctr_fn Try.func52 rfl Try.ntmps52 Try.results52 rfl rfl (by simp) ?_) | (refine ctr_fnC Try.func52 rfl Try.ntmps52 Try.results52 rfl (by simp) ?_)
  simp
  refine awCall_det' d1 (by simp) ?_
  simp
theorem patch_isV {lo hi : Nat} {M : Mem} {x : Patch} {vs : List Value} (h : patchP.rd lo hi M x vs) : ∃ A1 n1 c1 A2 n2 c2 A3 n3 c3, vs = [iv x.inp, .slice A1 n1 c1, .slice A2 n2 c2, .slice A3 n3 c3] := by
  obtain ⟨u, v, w, rfl, hu, hv, hw⟩ := h
  obtain ⟨A1, n1, c1, rfl⟩ := hu.isSl
  obtain ⟨A2, n2, c2, rfl⟩ := hv.isSl
  obtain ⟨A3, n3, c3, rfl⟩ := hw.isSl
  exact ⟨_, _, _, _, _, _, _, _, _, rfl⟩
theorem env_isV {lo hi : Nat} {M : Mem} {x : Envl} {vs : List Value} (h : envP.rd lo hi M x vs) : ∃ A1 n1 c1, vs = [iv x.st, .slice A1 n1 c1, iv x.rel] := by
  obtain ⟨u, rfl, hu⟩ := h
  obtain ⟨A1, n1, c1, rfl⟩ := hu.isSl
  exact ⟨_, _, _, rfl⟩
theorem toInstrument_x {M : Mem} {lo hi : Nat} {us : List Value} {x : Inst} (h : instP.rd lo hi M x us) (hb : SmallI x) : ∃ vs N, Det Try.prog M.length 12 [.agg us.toArray] M (.agg vs.toArray) (M ++ N) ∧ instP.rd M.length (M ++ N).length (M ++ N) x vs := by
  obtain ⟨ps, es, w, rfl, hp, he, hw⟩ := h
  obtain ⟨A1, n1, c1, A2, n2, c2, A3, n3, c3, rfl⟩ := patch_isV hp
  obtain ⟨A4, n4, c4, rfl⟩ := env_isV he
  obtain ⟨A5, n5, c5, rfl⟩ := hw.isSl
  obtain ⟨v1, N1, d1, r1⟩ := toPatch_x (M := M ++ ([Slot.live ⟨[iv x.pat.inp, .slice A1 n1 c1, .slice A2 n2 c2, .slice A3 n3 c3, iv x.env.st, .slice A4 n4 c4, iv x.env.rel, .slice A5 n5 c5], true, true, 31, 8⟩, .live ⟨[iv 0, .slice none 0 0, .slice none 0 0, .slice none 0 0, iv 0, .slice none 0 0, iv 0, .slice none 0 0], true, true, 41, 8⟩, .live ⟨[iv 0, .slice none 0 0, .slice none 0 0, .slice none 0 0, iv 0, .slice none 0 0, iv 0, .slice none 0 0], true, true, 41, 8⟩] ++ [])) (patchP.app hp _) hb.pat
  obtain ⟨B1, m1, g1, B2, m2, g2, B3, m3, g3, rfl⟩ := patch_isV r1
  obtain ⟨v2, N2, d2, r2⟩ := toEnvelope_x (M := M ++ ([Slot.live ⟨[iv x.pat.inp, .slice A1 n1 c1, .slice A2 n2 c2, .slice A3 n3 c3, iv x.env.st, .slice A4 n4 c4, iv x.env.rel, .slice A5 n5 c5], true, true, 31, 8⟩, .live ⟨[iv 0, .slice none 0 0, .slice none 0 0, .slice none 0 0, iv 0, .slice none 0 0, iv 0, .slice none 0 0], true, true, 41, 8⟩, .live ⟨[iv x.pat.inp, .slice B1 m1 g1, .slice B2 m2 g2, .slice B3 m3 g3, iv 0, .slice none 0 0, iv 0, .slice none 0 0], true, true, 41, 8⟩] ++ N1)) (envP.app he _) hb.segs
  obtain ⟨B4, m4, g4, rfl⟩ := env_isV r2
  obtain ⟨v3, N3, d3, r3⟩ := toInt64S_x (M := M ++ ([Slot.live ⟨[iv x.pat.inp, .slice A1 n1 c1, .slice A2 n2 c2, .slice A3 n3 c3, iv x.env.st, .slice A4 n4 c4, iv x.env.rel, .slice A5 n5 c5], true, true, 31, 8⟩, .live ⟨[iv 0, .slice none 0 0, .slice none 0 0, .slice none 0 0, iv 0, .slice none 0 0, iv 0, .slice none 0 0], true, true, 41, 8⟩, .live ⟨[iv x.pat.inp, .slice B1 m1 g1, .slice B2 m2 g2, .slice B3 m3 g3, iv x.env.st, .slice B4 m4 g4, iv x.env.rel, .slice none 0 0], true, true, 41, 8⟩] ++ (N1 ++ N2))) (hw.app _) hb.steps
  obtain ⟨B5, m5, g5, rfl⟩ := r3.isSl
  refine ⟨[iv x.pat.inp, .slice B1 m1 g1, .slice B2 m2 g2, .slice B3 m3 g3, iv x.env.st, .slice B4 m4 g4, iv x.env.rel, .slice B5 m5 g5], [Slot.live ⟨[iv x.pat.inp, .slice A1 n1 c1, .slice A2 n2 c2, .slice A3 n3 c3, iv x.env.st, .slice A4 n4 c4, iv x.env.rel, .slice A5 n5 c5], true, true, 31, 8⟩, .live ⟨[iv x.pat.inp, .slice B1 m1 g1, .slice B2 m2 g2, .slice B3 m3 g3, iv x.env.st, .slice B4 m4 g4, iv x.env.rel, .slice B5 m5 g5], true, true, 41, 8⟩, .live ⟨[iv x.pat.inp, .slice B1 m1 g1, .slice B2 m2 g2, .slice B3 m3 g3, iv x.env.st, .slice B4 m4 g4, iv x.env.rel, .slice B5 m5 g5], true, true, 41, 8⟩] ++ (N1 ++ (N2 ++ N3)), Ctr.det ?_, ⟨[iv x.pat.inp, .slice B1 m1 g1, .slice B2 m2 g2, .slice B3 m3 g3], [iv x.env.st, .slice B4 m4 g4, iv x.env.rel], .slice B5 m5 g5, rfl, ?_, ?_, ?_⟩⟩
  · first | (refine ctr_fn Try.func12 rfl Try.ntmps12 Try.results12 rfl rfl (by simp) ?_) | (refine ctr_fnC Try.func12 rfl Try.ntmps12 Try.results12 rfl (by simp) ?_)
    simp
    simp at d1 d2 d3
    refine awCall_det' d1 (by simp) ?_
    simp
    refine awCall_det' d2 (by simp) ?_
    simp
    refine awCall_det' d3 (by simp) ?_
    simp
  · exact patchP.boxesG (C := []) (D := N1) (E := N2 ++ N3) r1 rfl
  · exact envP.boxesG (C := N1) (D := N2) (E := N3) r2 rfl
  · have := r3.boxesG (A := [Slot.live ⟨[iv x.pat.inp, .slice A1 n1 c1, .slice A2 n2 c2, .slice A3 n3 c3, iv x.env.st, .slice A4 n4 c4, iv x.env.rel, .slice A5 n5 c5], true, true, 31, 8⟩, .live ⟨[iv x.pat.inp, .slice B1 m1 g1, .slice B2 m2 g2, .slice B3 m3 g3, iv x.env.st, .slice B4 m4 g4, iv x.env.rel, .slice B5 m5 g5], true, true, 41, 8⟩, .live ⟨[iv x.pat.inp, .slice B1 m1 g1, .slice B2 m2 g2, .slice B3 m3 g3, iv x.env.st, .slice B4 m4 g4, iv x.env.rel, .slice B5 m5 g5], true, true, 41, 8⟩]) (E := []) rfl
    simpa using this
theorem eqPatch_x {M : Mem} {lo hi lo' hi' : Nat} {us vs : List Value} {x y : Patch} (h : patchP.rd lo hi M x us) (h' : patchP.rd lo' hi' M y vs) : Det Try.prog M.length 57 [.agg us.toArray, .agg vs.toArray] M (.bool (decide (x = y))) M := by
  obtain ⟨u1, u2, u3, rfl, hu1, hu2, hu3⟩ := h
  obtain ⟨A1, n1, c1, rfl⟩ := hu1.isSl
  obtain ⟨A2, n2, c2, rfl⟩ := hu2.isSl
  obtain ⟨A3, n3, c3, rfl⟩ := hu3.isSl
  obtain ⟨v1, v2, v3, rfl, hv1, hv2, hv3⟩ := h'
  obtain ⟨B1, m1, d1, rfl⟩ := hv1.isSl
  obtain ⟨B2, m2, d2, rfl⟩ := hv2.isSl
  obtain ⟨B3, m3, d3, rfl⟩ := hv3.isSl
  first | (refine det_fn Try.func57 rfl Try.ntmps57 Try.results57 rfl rfl rfl (by simp) ?_) | (refine det_fnC Try.func57 rfl Try.ntmps57 Try.results57 rfl rfl (by simp) ?_)
  simp
  by_cases h1 : x.inp = y.inp
  case neg => simp [h1, patch_eq, keeps_app]
  simp [h1]
  refine awCall_det' (eqInt64SS_x (hu1.app _) (hv1.app _)) (by simp) ?_
  by_cases h2 : x.tabs = y.tabs
  case neg => simp [h1, h2, patch_eq, keeps_app]
  simp [h1, h2]
  refine awCall_det' (eqNodeS_x (hu2.app _) (hv2.app _)) (by simp) ?_
  by_cases h3 : x.nodes = y.nodes
  case neg => simp [h1, h2, h3, patch_eq, keeps_app]
  simp [h1, h2, h3]
  refine awCall_det' (eqInt64S_x (hu3.app _) (hv3.app _)) (by simp) ?_
  by_cases h4 : x.outs = y.outs
  · simp [h1, h2, h3, h4, patch_eq, keeps_app]
  · simp [h1, h2, h3, h4, patch_eq, keeps_app]
theorem eqEnvelope_x {M : Mem} {lo hi lo' hi' : Nat} {us vs : List Value} {x y : Envl} (h : envP.rd lo hi M x us) (h' : envP.rd lo' hi' M y vs) (hx : x.segs.length ≤ 1048576) : Det Try.prog M.length 58 [.agg us.toArray, .agg vs.toArray] M (.bool (decide (x = y))) M := by
  obtain ⟨u1, rfl, hu1⟩ := h
  obtain ⟨A1, n1, c1, rfl⟩ := hu1.isSl
  obtain ⟨v1, rfl, hv1⟩ := h'
  obtain ⟨B1, m1, d1, rfl⟩ := hv1.isSl
  first | (refine det_fn Try.func58 rfl Try.ntmps58 Try.results58 rfl rfl rfl (by simp) ?_) | (refine det_fnC Try.func58 rfl Try.ntmps58 Try.results58 rfl rfl (by simp) ?_)
  simp
  by_cases h1 : x.st = y.st
  case neg => simp [h1, env_eq, keeps_app]
  simp [h1]
  refine awCall_det' (eqSegmentS_x (hu1.app _) (hv1.app _) hx) (by simp) ?_
  by_cases h2 : x.segs = y.segs
  case neg => simp [h1, h2, env_eq, keeps_app]
  by_cases h3 : x.rel = y.rel
  · simp [h1, h2, h3, env_eq, keeps_app]
  · simp [h1, h2, h3, env_eq, keeps_app]
theorem eqInstrument_x {M : Mem} {lo hi lo' hi' : Nat} {us vs : List Value} {x y : Inst} (h : instP.rd lo hi M x us) (h' : instP.rd lo' hi' M y vs) (hx : x.env.segs.length ≤ 1048576) : Det Try.prog M.length 14 [.agg us.toArray, .agg vs.toArray] M (.bool (decide (x = y))) M := by
  obtain ⟨ps, es, w, rfl, hp, he, hw⟩ := h
  obtain ⟨ps', es', w', rfl, hp', he', hw'⟩ := h'
  obtain ⟨A1, n1, c1, A2, n2, c2, A3, n3, c3, rfl⟩ := patch_isV hp
  obtain ⟨A4, n4, c4, rfl⟩ := env_isV he
  obtain ⟨A5, n5, c5, rfl⟩ := hw.isSl
  obtain ⟨B1, m1, g1, B2, m2, g2, B3, m3, g3, rfl⟩ := patch_isV hp'
  obtain ⟨B4, m4, g4, rfl⟩ := env_isV he'
  obtain ⟨B5, m5, g5, rfl⟩ := hw'.isSl
  first | (refine det_fn Try.func14 rfl Try.ntmps14 Try.results14 rfl rfl rfl (by simp) ?_) | (refine det_fnC Try.func14 rfl Try.ntmps14 Try.results14 rfl rfl (by simp) ?_)
  simp
  refine awCall_det' (eqPatch_x (patchP.app hp _) (patchP.app hp' _)) (by simp) ?_
  by_cases h1 : x.pat = y.pat
  case neg => simp [h1, inst_eq, keeps_app]
  simp [h1]
  refine awCall_det' (eqEnvelope_x (envP.app he _) (envP.app he' _) hx) (by simp) ?_
  by_cases h2 : x.env = y.env
  case neg => simp [h1, h2, inst_eq, keeps_app]
  simp [h1, h2]
  refine awCall_det' (eqInt64S_x (hw.app _) (hw'.app _)) (by simp) ?_
  by_cases h3 : x.steps = y.steps
  · simp [h1, h2, h3, inst_eq, keeps_app]
  · simp [h1, h2, h3, inst_eq, keeps_app]
end Go.Proofs.Ytffbocbjmhkikaa
