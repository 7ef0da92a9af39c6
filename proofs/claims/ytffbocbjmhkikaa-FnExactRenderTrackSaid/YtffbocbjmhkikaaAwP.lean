/- Regions that draw their order: the operations may be written in another order. No conditions. -/
import Derived.Test.YtffbocbjmhkikaaAw19
namespace Go.Proofs.Ytffbocbjmhkikaa
open Go.RowKit
set_option linter.unusedVariables false
set_option linter.unusedSimpArgs false
/-- An operation whose edges and guard are numbered anew. -/
def rnOp (p : List Nat) (o : Oper) : Oper := { o with after := o.after.map fun e => { e with on := p.getD e.on 0 }, guard := o.guard.map fun g => (p.getD g.1 0, g.2) }
def permOps (ops : Array Oper) (p q : List Nat) : Array Oper := (q.map fun i => rnOp p (ops.getD i default)).toArray
def permOk (ops : Array Oper) (p q : List Nat) : Bool :=
  decide (p.length = ops.size) && decide (q.length = ops.size) && ((List.range ops.size).all fun i => decide (p.getD i 0 < ops.size) && decide (q.getD i 0 < ops.size) && decide (q.getD (p.getD i 0) 0 = i) && decide (p.getD (q.getD i 0) 0 = i)) &&
  ((List.range ops.size).all fun i => ((ops.getD i default).after.all fun e => decide (e.on < ops.size)) && (match (ops.getD i default).guard with | none => true | some g => decide (g.1 < ops.size)))
structure PermOk (ops : Array Oper) (p q : List Nat) : Prop where
  lp : p.length = ops.size
  lq : q.length = ops.size
  pl : ∀ i, i < ops.size → p.getD i 0 < ops.size
  ql : ∀ i, i < ops.size → q.getD i 0 < ops.size
  qp : ∀ i, i < ops.size → q.getD (p.getD i 0) 0 = i
  pq : ∀ i, i < ops.size → p.getD (q.getD i 0) 0 = i
  on : ∀ (i : Nat) (o : Oper), ops[i]? = some o → ∀ e ∈ o.after.toList, e.on < ops.size
  gd : ∀ (i : Nat) (o : Oper) (g : Nat × Bool), ops[i]? = some o → o.guard = some g → g.1 < ops.size
theorem permOk_spec {ops : Array Oper} {p q : List Nat} (h : permOk ops p q = true) : PermOk ops p q := by
  unfold permOk at h
  simp only [Bool.and_eq_true, decide_eq_true_eq, List.all_eq_true, List.mem_range] at h
  obtain ⟨⟨⟨h1, h2⟩, h3⟩, h4⟩ := h
  refine ⟨h1, h2, fun i hi => (h3 i hi).1.1.1, fun i hi => (h3 i hi).1.1.2, fun i hi => (h3 i hi).1.2, fun i hi => (h3 i hi).2, fun i o ho e he => ?_, fun i o g ho hg => ?_⟩
  · have hi := (Array.getElem?_eq_some_iff.1 ho).1
    have hd : ops.getD i default = o := by rw [Array.getD_eq_getD_getElem?, ho]; rfl
    have := (h4 i hi).1
    rw [hd, Array.all_eq_true] at this
    obtain ⟨j, hj, rfl⟩ := List.getElem_of_mem he
    have := this j (by simpa using hj)
    simpa using this
  · have hi := (Array.getElem?_eq_some_iff.1 ho).1
    have hd : ops.getD i default = o := by rw [Array.getD_eq_getD_getElem?, ho]; rfl
    have := (h4 i hi).2
    rw [hd, hg] at this
    simpa using this
section
variable {P : Program} {ops : Array Oper} {p q : List Nat} {Q : Exit → Act → World → Prop}
theorem PermOk.size (h : PermOk ops p q) : (permOps ops p q).size = ops.size := by simp [permOps, h.lq]
theorem PermOk.get (h : PermOk ops p q) {i : Nat} {o : Oper} (ho : ops[i]? = some o) : (permOps ops p q)[p.getD i 0]? = some (rnOp p o) := by
  have hi := (Array.getElem?_eq_some_iff.1 ho).1
  have hp := h.pl i hi
  have hq : q[p.getD i 0]? = some i := by
    have := h.qp i hi
    rw [List.getD_eq_getElem?_getD] at this
    have hx : q[p.getD i 0]? = some (q[p.getD i 0]'(by rw [h.lq]; exact hp)) := List.getElem?_eq_getElem _
    rw [hx] at this ⊢
    simpa using this
  have hd : ops.getD i default = o := by rw [Array.getD_eq_getD_getElem?, ho]; rfl
  unfold permOps
  rw [List.getElem?_toArray, List.getElem?_map, hq]
  simp only [Option.map_some, hd]
theorem PermOk.yield (h : PermOk ops p q) (t : Array Value) {j : Nat} (hj : j < ops.size) : yielded (permOps ops p q) t (p.getD j 0) = yielded ops t j := by
  have ho : ops[j]? = some ops[j] := Array.getElem?_eq_getElem hj
  unfold yielded
  rw [h.get ho, ho]
  rfl
theorem PermOk.wanted (h : PermOk ops p q) (t : Array Value) {i : Nat} {o : Oper} (ho : ops[i]? = some o) : Region.wanted (rnOp p o) (yielded (permOps ops p q) t) = Region.wanted o (yielded ops t) := by
  unfold Region.wanted rnOp
  cases hg : o.guard with
  | none => rfl
  | some g =>
    obtain ⟨j, w⟩ := g
    show (yielded (permOps ops p q) t (p.getD j 0) == some w) = _
    rw [h.yield t (h.gd i o _ ho hg)]
theorem PermOk.ready (h : PermOk ops p q) {listed listed' : Array Bool} (hl : ∀ i, i < ops.size → listed'.getD (p.getD i 0) false = listed.getD i false) (hs : listed.size = ops.size) (hs' : listed'.size = ops.size) {i : Nat} (hi : i ∈ Region.ready .any ops listed) : p.getD i 0 ∈ Region.ready .any (permOps ops p q) listed' := by
  obtain ⟨o, ho, h1, h2⟩ := ready_iff.1 hi
  have hil := (Array.getElem?_eq_some_iff.1 ho).1
  have hp := h.pl i hil
  refine ready_iff.2 ⟨_, h.get ho, ?_, fun e he hb => ?_⟩
  · rw [getD_tf (by omega), hl i hil, ← getD_tf (by omega)]; exact h1
  · obtain ⟨e0, he0, rfl⟩ : ∃ e0, e0 ∈ o.after.toList ∧ ({ e0 with on := p.getD e0.on 0 } : Edge) = e := by
      have : e ∈ (o.after.map fun e => ({ e with on := p.getD e.on 0 } : Edge)).toList := he
      simp only [Array.toList_map, List.mem_map] at this
      exact this
    show listed'.getD (p.getD e0.on 0) false = true
    rw [hl _ (h.on i o ho e0 he0)]
    exact h2 e0 he0 hb
theorem PermOk.back (h : PermOk ops p q) {listed listed' : Array Bool} (hl : ∀ i, i < ops.size → listed'.getD (p.getD i 0) false = listed.getD i false) (hs : listed.size = ops.size) (hs' : listed'.size = ops.size) (hr : Region.ready .any ops listed = []) : Region.ready .any (permOps ops p q) listed' = [] := by
  apply List.eq_nil_iff_forall_not_mem.2
  intro j hj
  obtain ⟨o', ho', h1, h2⟩ := ready_iff.1 hj
  have hjl : j < ops.size := by have := (Array.getElem?_eq_some_iff.1 ho').1; rwa [h.size] at this
  have hq := h.ql j hjl
  have ho : ops[q.getD j 0]? = some ops[q.getD j 0] := Array.getElem?_eq_getElem hq
  have hg := h.get ho
  rw [h.pq j hjl, ho'] at hg
  injection hg with hg
  subst hg
  have hm : q.getD j 0 ∈ Region.ready .any ops listed := by
    refine ready_iff.2 ⟨_, ho, ?_, fun e he hb => ?_⟩
    · rw [getD_tf (by omega), ← hl _ hq, h.pq j hjl, ← getD_tf (by omega)]; exact h1
    · have hon := h.on _ _ ho e he
      rw [← hl _ hon]
      have := h2 { e with on := p.getD e.on 0 } (by
        show _ ∈ (ops[q.getD j 0].after.map fun e => ({ e with on := p.getD e.on 0 } : Edge)).toList
        rw [Array.toList_map]
        exact List.mem_map.2 ⟨e, he, rfl⟩) hb
      exact this
  rw [hr] at hm
  cases hm
theorem PermOk.op (h : PermOk ops p q) {i : Nat} {K : Act → World → Prop} {a : Act} {w : World} (hi : i < ops.size) (hw : wpOp P (permOps ops p q) Q (p.getD i 0) K a w) : wpOp P ops Q i K a w := by
  have ho : ops[i]? = some ops[i] := Array.getElem?_eq_getElem hi
  unfold wpOp at hw ⊢
  rw [h.get ho] at hw
  rw [ho]
  simp only at hw ⊢
  rw [h.wanted a.tmps ho] at hw
  exact hw
theorem perm_any (h : PermOk ops p q) : ∀ (fuel : Nat) (listed listed' : Array Bool) (a : Act) (w : World), (∀ i, i < ops.size → listed'.getD (p.getD i 0) false = listed.getD i false) → listed.size = ops.size → listed'.size = ops.size →
    wpAny P .any (permOps ops p q) Q fuel listed' a w → wpAny P .any ops Q fuel listed a w := by
  intro fuel
  induction fuel with
  | zero =>
    intro listed listed' a w hl hs hs' ⟨h1, h2⟩
    refine ⟨?_, h2⟩
    apply List.eq_nil_iff_forall_not_mem.2
    intro i hi
    have := h.ready hl hs hs' hi
    rw [h1] at this
    cases this
  | succ fuel ih =>
    intro listed listed' a w hl hs hs' ⟨h1, h2⟩
    refine ⟨fun hr => h1 (h.back hl hs hs' hr), fun i hi => ?_⟩
    obtain ⟨o, ho, -, -⟩ := ready_iff.1 hi
    have hil := (Array.getElem?_eq_some_iff.1 ho).1
    refine h.op hil (wpOp_mono (fun a w hw => ih (listed.setIfInBounds i true) (listed'.setIfInBounds (p.getD i 0) true) a w (fun j hj => ?_) (by simpa using hs) (by simpa using hs') hw) (h2 _ (h.ready hl hs hs' hi)))
    rw [getD_set (listed := listed') (i := p.getD i 0) (by have := h.pl i hil; omega), getD_set (listed := listed) (i := i) (by omega)]
    by_cases e : j = i
    · subst e; rw [if_pos rfl, if_pos rfl]
    · rw [if_neg e, if_neg (fun hh => e (by have := congrArg (q.getD · 0) hh; simp only [h.qp j hj, h.qp i hil] at this; exact this))]
      exact hl j hj
theorem perm_region {b : Nat} {S : St} {id : Nat} {Q : Ex → St → Prop} (hp : permOk ops p q = true) (h : ∀ μ a w, Env S μ a → Sim S.M μ w → wpAny P .any (permOps ops p q) (AQ b Q S.M μ w) ops.size (Array.replicate ops.size false) a { w with drawn := w.drawn + 1 }) (hm : P.follows .mixedOrders = true) : AW P b (.region id ops true) Q S := by
  have hp := permOk_spec hp
  intro μ a w hE hS
  refine wp_region_any hm (perm_any hp _ _ (Array.replicate ops.size false) _ _ (fun i hi => ?_) (by simp) (by simp) (h μ a w hE hS))
  have := hp.pl i hi
  simp [Array.getD_eq_getD_getElem?, Array.getElem?_replicate, hi]
  split <;> rfl
end
end Go.Proofs.Ytffbocbjmhkikaa
