/- Parts of the proof, together: Memories that are known in part: what a region that draws its order needs. Regions that draw their order: run in the order of the text. Regions that draw their order: any order does what the text's order does. Regions that draw their order: the steps, and the whole. Regions that draw their order: the whole region; code; functions. No conditions. -/
import Derived.Test.YtodbjnngkonklaaGreatZzI2
namespace Go.Proofs.YtodbjnngkonklaaGreat
open Go.RowKit
set_option linter.unusedVariables false
set_option linter.unusedSimpArgs false

def holes (s : List Slot) : List Slot := s.map fun _ => .hole
@[simp] theorem holes_len (s : List Slot) : (holes s).length = s.length := by simp [holes]
@[simp] theorem holes_nil : holes [] = [] := rfl
theorem holes_get {s : List Slot} {i : Nat} {x : Slot} (h : (holes s)[i]? = some x) : x = .hole := by
  unfold holes at h
  rw [List.getElem?_map] at h
  obtain ⟨y, -, hy⟩ := Option.map_eq_some_iff.1 h
  exact hy.symm
/-- Segments, those that p does not name as holes. -/
def maskP : List (List Slot) → Nat → (Nat → Bool) → List Slot
  | [], _, _ => []
  | s :: ss, j, p => (if p j = true then s else holes s) ++ maskP ss (j + 1) p
theorem maskP_append (p : Nat → Bool) : ∀ (A B : List (List Slot)) (j : Nat), maskP (A ++ B) j p = maskP A j p ++ maskP B (j + A.length) p
  | [], B, j => by simp [maskP]
  | s :: A, B, j => by
    simp only [List.cons_append, maskP, List.append_assoc]
    rw [maskP_append p A B (j + 1)]
    simp only [List.length_cons, List.append_assoc]
    rw [show j + 1 + A.length = j + (A.length + 1) by omega]
theorem maskP_len (p q : Nat → Bool) : ∀ (A : List (List Slot)) (j : Nat), (maskP A j p).length = (maskP A j q).length
  | [], _ => rfl
  | s :: A, j => by
    simp only [maskP, List.length_append, maskP_len p q A (j + 1)]
    by_cases h1 : p j = true <;> by_cases h2 : q j = true <;> simp [h1, h2]
theorem maskP_congr {p q : Nat → Bool} : ∀ (A : List (List Slot)) (j : Nat), (∀ i, j ≤ i → i < j + A.length → p i = q i) → maskP A j p = maskP A j q
  | [], _, _ => rfl
  | s :: A, j, h => by
    simp only [maskP]
    rw [h j (Nat.le_refl _) (by simp), maskP_congr A (j + 1) fun i h1 h2 => h i (by omega) (by simp; omega)]
theorem maskP_all : ∀ (A : List (List Slot)) (j : Nat) (p : Nat → Bool), (∀ i, j ≤ i → i < j + A.length → p i = true) → maskP A j p = A.flatten
  | [], _, _, _ => rfl
  | s :: A, j, p, h => by
    simp only [maskP, List.flatten_cons]
    rw [if_pos (h j (Nat.le_refl _) (by simp)), maskP_all A (j + 1) p fun i h1 h2 => h i (by omega) (by simp; omega)]
/-- What A knows, B knows. -/
def Sub (A B : Mem) : Prop := ∀ (i : Nat) s, A[i]? = some s → s.known = true → B[i]? = some s
theorem Sub.refl (A : Mem) : Sub A A := fun _ _ h _ => h
theorem Sub.trans {A B C : Mem} (h : Sub A B) (h' : Sub B C) : Sub A C := fun i s hs hk => h' i s (h i s hs hk) hk
theorem Sub.append {A B C D : Mem} (hl : A.length = B.length) (h : Sub A B) (h' : Sub C D) : Sub (A ++ C) (B ++ D) := by
  intro i s hs hk
  by_cases hi : i < A.length
  · rw [List.getElem?_append_left hi] at hs
    rw [List.getElem?_append_left (by omega)]
    exact h i s hs hk
  · rw [List.getElem?_append_right (by omega)] at hs
    rw [List.getElem?_append_right (by omega), ← hl]
    exact h' _ s hs hk
theorem Sub.left {A B : Mem} (C : Mem) (h : Sub A B) : Sub A (B ++ C) := by
  intro i s hs hk
  have := h i s hs hk
  rw [List.getElem?_append_left (List.getElem?_eq_some_iff.1 this).1]
  exact this
theorem sub_holes (s t : List Slot) : Sub (holes s) t := fun i x hx hk => by rw [holes_get hx] at hk; cases hk
theorem maskP_sub {p q : Nat → Bool} : ∀ (A : List (List Slot)) (j : Nat), (∀ i, j ≤ i → i < j + A.length → p i = true → q i = true) → Sub (maskP A j p) (maskP A j q)
  | [], _, _ => .refl _
  | s :: A, j, h => by
    simp only [maskP]
    have hl : (if p j = true then s else holes s).length = (if q j = true then s else holes s).length := by
      by_cases h1 : p j = true <;> by_cases h2 : q j = true <;> simp [h1, h2]
    refine .append hl ?_ (maskP_sub A (j + 1) fun i h1 h2 => h i (by omega) (by simp; omega))
    by_cases h1 : p j = true
    · rw [if_pos h1, if_pos (h j (Nat.le_refl _) (by simp) h1)]; exact .refl _
    · rw [if_neg h1]; exact sub_holes _ _

section
variable {b : Nat} {A B M : Mem} {μ μ' : Map} {w w' : World}
theorem VRel.sub {v c : Value} (h : VRel A μ v c) (hs : Sub A B) : VRel B μ v c := h.same fun i s hi hk => ⟨hs i s hi hk, rfl, rfl⟩
/-- The same maps at what is known. -/
def MapEq (A : Mem) (μ μ' : Map) : Prop := ∀ (i : Nat) s, A[i]? = some s → s.known = true → μ'.at_ i = μ.at_ i ∧ μ'.room i = μ.room i
theorem VRel.remap {v c : Value} (h : VRel A μ v c) (hm : MapEq A μ μ') : VRel A μ' v c := h.same fun i s hi hk => ⟨hi, hm i s hi hk⟩
theorem RowRel.remap {id : Nat} {r : Row} (h : RowRel A μ w id r) (hi : A[id]? = some (.live r)) (hm : MapEq A μ μ') : RowRel A μ' w id r := by
  obtain ⟨h1, h2⟩ := hm id _ hi rfl
  refine ⟨by rw [h1]; exact h.lt, fun j c hc => ?_, fun ho => ?_⟩
  · obtain ⟨d, hd, hv⟩ := h.cell j c hc
    exact ⟨d, by rw [h1]; exact hd, hv.remap hm⟩
  · rw [h1, h2]; exact h.own ho
theorem RowRel.sub {id : Nat} {r : Row} (h : RowRel A μ w id r) (hs : Sub A B) : RowRel B μ w id r := by
  refine ⟨h.lt, fun j c hc => ?_, h.own⟩
  obtain ⟨d, hd, hv⟩ := h.cell j c hc
  exact ⟨d, hd, hv.sub hs⟩
theorem Sim.remap (h : Sim A μ w) (hm : MapEq A μ μ') : Sim A μ' w :=
  ⟨fun id r hr => (h.row id r hr).remap hr hm, fun i j r s hi hj hne ho => by rw [(hm i _ hi rfl).1, (hm j _ hj rfl).1]; exact h.inj i j r s hi hj hne ho, fun hon => ⟨(h.glob hon).1, (h.glob hon).2.1, fun id r hr ho => by rw [(hm id _ hr rfl).1]; exact (h.glob hon).2.2 id r hr ho⟩, h.maps⟩

/-- A stable operation's outcome is laid into a memory that knows more. -/
theorem Sim.merge {L N R Mk : Mem} (hl : Mk.length = L.length) (hsub : Sub Mk L) (hA : Sim (L ++ (holes N ++ R)) μ w) (hN : Sim (Mk ++ N) μ' w') (hst : Step Mk.length Mk μ w (Mk ++ N) μ' w')
    {M0 : Mem} {μ0 : Map} {w0 : World} (hM0 : M0.length ≤ L.length) (h0 : Step b M0 μ0 w0 (L ++ (holes N ++ R)) μ w) :
    ∃ μ2, Sim (L ++ (N ++ R)) μ2 w' ∧ Step b M0 μ0 w0 (L ++ (N ++ R)) μ2 w' ∧ MapEq (L ++ (holes N ++ R)) μ μ2 ∧ MapEq (Mk ++ N) μ' μ2 := by
  let μ2 : Map := ⟨fun i => if L.length ≤ i ∧ i < L.length + N.length then μ'.at_ i else μ.at_ i, fun i => if L.length ≤ i ∧ i < L.length + N.length then μ'.room i else μ.room i⟩
  have hblk : ∀ k, k < w.heap.size → w'.heap[k]? = w.heap[k]? := fun k hk => hst.block k hk (fun i r hi hr _ => absurd (List.getElem?_eq_some_iff.1 hr).1 (by omega)) (fun i r es hi hr => absurd (List.getElem?_eq_some_iff.1 hr).1 (by omega))
  have m1 : MapEq (L ++ (holes N ++ R)) μ μ2 := by
    intro i s hi hk
    have hn : ¬ (L.length ≤ i ∧ i < L.length + N.length) := by
      rintro ⟨h1, h2⟩
      rw [List.getElem?_append_right h1, List.getElem?_append_left (by simp; omega)] at hi
      rw [holes_get hi] at hk
      cases hk
    exact ⟨if_neg hn, if_neg hn⟩
  have m2 : MapEq (Mk ++ N) μ' μ2 := by
    intro i s hi hk
    by_cases h1 : L.length ≤ i ∧ i < L.length + N.length
    · exact ⟨if_pos h1, if_pos h1⟩
    · have hlt := (List.getElem?_eq_some_iff.1 hi).1
      rw [List.length_append] at hlt
      have := hst.map i (by omega)
      exact ⟨(if_neg h1).trans this.1.symm, (if_neg h1).trans this.2.symm⟩
  have s1 : Sub (L ++ (holes N ++ R)) (L ++ (N ++ R)) := .append rfl (.refl _) (.append (by simp) (sub_holes _ _) (.refl _))
  have s2 : Sub (Mk ++ N) (L ++ (N ++ R)) := .append hl hsub ((Sub.refl _).left _)
  -- a known slot of the whole: old, or new
  have part : ∀ (i : Nat) r, (L ++ (N ++ R))[i]? = some (.live r) → (L ++ (holes N ++ R))[i]? = some (.live r) ∨ ((Mk ++ N)[i]? = some (.live r) ∧ Mk.length ≤ i) := by
    intro i r hi
    by_cases h1 : i < L.length
    · rw [List.getElem?_append_left h1] at hi
      left; rw [List.getElem?_append_left h1]; exact hi
    · rw [List.getElem?_append_right (by omega)] at hi
      by_cases h2 : i - L.length < N.length
      · rw [List.getElem?_append_left h2] at hi
        right
        rw [List.getElem?_append_right (by omega), hl]
        exact ⟨hi, by omega⟩
      · rw [List.getElem?_append_right (by omega)] at hi
        left
        rw [List.getElem?_append_right (by omega), List.getElem?_append_right (by simp; omega), holes_len]
        exact hi
  have partm : ∀ (i r : Nat) es, (L ++ (N ++ R))[i]? = some (.mp r es) → (L ++ (holes N ++ R))[i]? = some (.mp r es) ∨ ((Mk ++ N)[i]? = some (.mp r es) ∧ Mk.length ≤ i) := by
    intro i r es hi
    by_cases h1 : i < L.length
    · rw [List.getElem?_append_left h1] at hi
      left; rw [List.getElem?_append_left h1]; exact hi
    · rw [List.getElem?_append_right (by omega)] at hi
      by_cases h2 : i - L.length < N.length
      · rw [List.getElem?_append_left h2] at hi
        right
        rw [List.getElem?_append_right (by omega), hl]
        exact ⟨hi, by omega⟩
      · rw [List.getElem?_append_right (by omega)] at hi
        left
        rw [List.getElem?_append_right (by omega), List.getElem?_append_right (by simp; omega), holes_len]
        exact hi
  have newlt : ∀ (i : Nat) r, (Mk ++ N)[i]? = some (.live r) → Mk.length ≤ i → w.heap.size ≤ (μ'.at_ i).block := by
    intro i r hi hle
    rcases hst.fresh i r hle hi with h | ⟨j, r0, hj, h1, -⟩
    · exact h
    · exact absurd (List.getElem?_eq_some_iff.1 h1).1 (by omega)
  have hA2 : Sim (L ++ (holes N ++ R)) μ2 w' := (hA.grow hblk hst.size).remap m1
  have hN2 : Sim (Mk ++ N) μ2 w' := hN.remap m2
  refine ⟨μ2, ⟨fun i r hi => ?_, fun i j r s hi hj hne ho => ?_, fun hon => ⟨(hA2.glob hon).1, (hA2.glob hon).2.1, fun i r hi ho => ?_⟩, ⟨fun i r es hi => ?_, fun i j r es es' hi hj => ?_⟩⟩, ⟨fun i s hs => ?_, fun i hi => ?_, ?_, ?_, ?_, ?_, fun k hk hn hm => ?_, fun i r es hi hr => ?_, fun i r hi hr => ?_⟩, m1, m2⟩
  · rcases part i r hi with h | ⟨h, -⟩
    · exact (hA2.row i r h).sub s1
    · exact (hN2.row i r h).sub s2
  · rcases part i r hi with h | ⟨h, hi'⟩ <;> rcases part j s hj with k | ⟨k, hj'⟩
    · exact hA2.inj i j r s h k hne ho
    · have a1 := (hA.row i r h).lt
      have a2 := newlt j s k hj'
      rw [(m1 i _ h rfl).1, (m2 j _ k rfl).1]
      omega
    · have a1 := (hA.row j s k).lt
      have a2 := newlt i r h hi'
      rw [(m2 i _ h rfl).1, (m1 j _ k rfl).1]
      omega
    · exact hN2.inj i j r s h k hne ho
  · rcases part i r hi with h | ⟨h, -⟩
    · exact (hA2.glob hon).2.2 i r h ho
    · exact (hN2.glob hon).2.2 i r h ho
  · rcases partm i r es hi with h | ⟨h, -⟩
    · exact hA2.maps.1 i r es h
    · exact hN2.maps.1 i r es h
  · have old : ∀ (i : Nat) es, (L ++ (holes N ++ R))[i]? = some (.mp r es) → r < w.heap.size := fun i es h => by
      obtain ⟨m, c, h1, -⟩ := hA.maps.1 i r es h
      exact (Array.getElem?_eq_some_iff.1 h1).1
    rcases partm i r es hi with h | ⟨h, hi'⟩ <;> rcases partm j r es' hj with k | ⟨k, hj'⟩
    · exact hA2.maps.2 i j r es es' h k
    · have a1 := old i es h
      have a2 := hst.freshM j r es' hj' k
      omega
    · have a1 := old j es' k
      have a2 := hst.freshM i r es hi' h
      omega
    · exact hN2.maps.2 i j r es es' h k
  · obtain ⟨s', h1, h2⟩ := h0.slot i s hs
    have hi := (List.getElem?_eq_some_iff.1 hs).1
    rw [List.getElem?_append_left (by omega)] at h1
    exact ⟨s', by rw [List.getElem?_append_left (by omega)]; exact h1, h2⟩
  · have hn : ¬ (L.length ≤ i ∧ i < L.length + N.length) := by omega
    exact ⟨(if_neg hn).trans (h0.map i hi).1, (if_neg hn).trans (h0.map i hi).2⟩
  · exact hst.os.trans h0.os
  · exact hst.tape.trans h0.tape
  · exact hst.output.trans h0.output
  · exact Nat.le_trans h0.size hst.size
  · rw [hblk k (Nat.lt_of_lt_of_le hk h0.size), h0.block k hk hn hm]
  · rcases partm i r es hr with h | ⟨h, hi'⟩
    · exact h0.freshM i r es hi h
    · exact Nat.le_trans h0.size (hst.freshM i r es hi' h)
  · rcases part i r hr with h | ⟨h, hi'⟩
    · rw [(m1 i _ h rfl).1]; exact h0.fresh i r hi h
    · rw [(m2 i _ h rfl).1]; exact .inl (Nat.le_trans h0.size (newlt i r h hi'))
end
end Go.Proofs.YtodbjnngkonklaaGreat

namespace Go.Proofs.YtodbjnngkonklaaGreat
open Go.RowKit
set_option linter.unusedVariables false
set_option linter.unusedSimpArgs false

def dstOf (ops : Array Oper) (j : Nat) : Option Tmp := (ops[j]?).bind (·.dst)
def awG (ops : Array Oper) (o : Oper) (S : St) (A B : Prop) : Prop :=
  match o.guard with
  | none => A
  | some (j, want) => ow ((dstOf ops j).bind S.get) fun g => match g with
    | .bool y => (y = want → A) ∧ (y = !want → B)
    | .tuple _ => B
    | _ => False
/-- The stable operations, in the order of the text; dp: on which each hangs; segs: what each has laid. -/
noncomputable def awD (P : Program) (ops : Array Oper) (dp : List (List Nat)) (n : Nat) (M0 : Mem) (Q : St → Prop) : List Oper → Nat → List (Nat × Value) → List (List Slot) → Prop
  | [], _, T, segs => Q ⟨n, T, M0 ++ segs.flatten⟩
  | o :: os, k, T, segs =>
    awG ops o ⟨n, T, M0 ++ maskP segs 0 fun j => (dp.getD k []).contains j⟩
      (awOp P true (M0 ++ maskP segs 0 fun j => (dp.getD k []).contains j).length o ⟨n, T, M0 ++ maskP segs 0 fun j => (dp.getD k []).contains j⟩ fun v M' =>
        awD P ops dp n M0 Q os (k + 1) (St.put ⟨n, T, M0⟩ o.dst v).T (segs ++ [M'.drop (M0 ++ maskP segs 0 fun j => (dp.getD k []).contains j).length]))
      (awD P ops dp n M0 Q os (k + 1) (St.put ⟨n, T, M0⟩ o.dst undef).T (segs ++ [[]]))
def tmpsOf (o : Oper) : List Tmp := o.op.operands.toList.filterMap fun | .tmp t => some t | _ => none
def drawBase (ops : Array Oper) (m : Nat) (dp : List (List Nat)) : Bool :=
  decide (m ≤ ops.size) &&
  ((List.range ops.size).all fun k => match ops[k]? with
    | none => false
    | some o =>
      (o.after.all fun e => !Region.binds .any e || decide (e.on < k)) &&
      ((dp.getD k []).all fun j => decide (j < k) && o.after.any fun e => Region.binds .any e && (e.on == j || (dp.getD e.on []).contains j)) &&
      (if k < m then
        ((dp.getD k []).all fun j => (dp.getD j []).all fun i => (dp.getD k []).contains i) &&
        ((tmpsOf o).all fun t => (List.range m).all fun j => dstOf ops j != some t || (dp.getD k []).contains j) &&
        (match o.guard with | none => true | some (j, _) => (dp.getD k []).contains j) &&
        ((List.range k).all fun j => o.dst.isNone || dstOf ops j != o.dst)
      else true))
def drawTail (ops : Array Oper) (m : Nat) (dp : List (List Nat)) : Bool := (List.range ops.size).all fun k => decide (k < m) || (List.range k).all fun j => (dp.getD k []).contains j
def drawOk (ops : Array Oper) (m : Nat) (dp : List (List Nat)) : Bool := drawBase ops m dp && drawTail ops m dp
theorem drawOk_tail {ops : Array Oper} {m : Nat} {dp : List (List Nat)} (h : drawOk ops m dp = true) : ∀ k, m ≤ k → k < ops.size → ∀ j, j < k → (dp.getD k []).contains j = true := by
  unfold drawOk at h
  rw [Bool.and_eq_true] at h
  intro k hm hk j hj
  have := List.all_eq_true.1 h.2 k (List.mem_range.2 hk)
  rw [Bool.or_eq_true] at this
  rcases this with h1 | h1
  · have := of_decide_eq_true h1; omega
  · exact List.all_eq_true.1 h1 j (List.mem_range.2 hj)
structure DrawOk (ops : Array Oper) (m : Nat) (dp : List (List Nat)) : Prop where
  le : m ≤ ops.size
  back : ∀ k o, ops[k]? = some o → ∀ e ∈ o.after.toList, Region.binds .any e = true → e.on < k
  dep : ∀ k o, ops[k]? = some o → ∀ j, (dp.getD k []).contains j = true → j < k ∧ ∃ e ∈ o.after.toList, Region.binds .any e = true ∧ (e.on = j ∨ (dp.getD e.on []).contains j = true)
  trans : ∀ k, k < m → ∀ j, (dp.getD k []).contains j = true → ∀ i, (dp.getD j []).contains i = true → (dp.getD k []).contains i = true
  reads : ∀ k o, k < m → ops[k]? = some o → ∀ t, .tmp t ∈ o.op.operands.toList → ∀ j, j < m → dstOf ops j = some t → (dp.getD k []).contains j = true
  guard : ∀ k o j y, k < m → ops[k]? = some o → o.guard = some (j, y) → (dp.getD k []).contains j = true
  apart : ∀ k t j, k < m → dstOf ops k = some t → j < k → dstOf ops j ≠ some t
theorem drawBase_spec {ops : Array Oper} {m : Nat} {dp : List (List Nat)} (h : drawBase ops m dp = true) : DrawOk ops m dp := by
  unfold drawBase at h
  rw [Bool.and_eq_true] at h
  obtain ⟨h1, h2⟩ := h
  have h1 : m ≤ ops.size := of_decide_eq_true h1
  have h2 := List.all_eq_true.1 h2
  have at_ : ∀ k o, ops[k]? = some o → _ := fun k o ho => by
    have := h2 k (List.mem_range.2 (Array.getElem?_eq_some_iff.1 ho).1)
    rw [ho] at this
    simp only [Bool.and_eq_true] at this
    exact this
  refine ⟨h1, fun k o ho e he hb => ?_, fun k o ho j hj => ?_, fun k hk j hj i hi => ?_, fun k o hk ho t ht j hj hd => ?_, fun k o j y hk ho hg => ?_, fun k t j hk hd hj hd' => ?_⟩
  · have := (at_ k o ho).1.1
    rw [Array.all_eq_true] at this
    obtain ⟨i, hi, rfl⟩ := List.getElem_of_mem he
    have := this i (by simpa using hi)
    simp at hb
    simpa [hb] using this
  · have := (at_ k o ho).1.2
    rw [List.all_eq_true] at this
    have := this j (by simpa using hj)
    simp only [Bool.and_eq_true, decide_eq_true_eq, Array.any_eq_true] at this
    obtain ⟨h3, i, hi, h4, h5⟩ := this
    refine ⟨h3, o.after[i], by simp, h4, ?_⟩
    simpa using h5
  · obtain ⟨o, ho⟩ : ∃ o, ops[k]? = some o := ⟨_, Array.getElem?_eq_getElem (by omega)⟩
    have := (at_ k o ho).2
    rw [if_pos hk] at this
    simp only [Bool.and_eq_true, List.all_eq_true] at this
    exact this.1.1.1 j (by simpa using hj) i (by simpa using hi)
  · have := (at_ k o ho).2
    rw [if_pos hk] at this
    simp only [Bool.and_eq_true, List.all_eq_true] at this
    have := this.1.1.2 t (List.mem_filterMap.2 ⟨_, ht, rfl⟩) j (by simpa using hj)
    simpa [hd] using this
  · have := (at_ k o ho).2
    rw [if_pos hk] at this
    simp only [Bool.and_eq_true] at this
    have := this.1.2
    rw [hg] at this
    exact this
  · obtain ⟨o, ho⟩ : ∃ o, ops[k]? = some o := ⟨_, Array.getElem?_eq_getElem (by omega)⟩
    have hod : o.dst = some t := by simpa [dstOf, ho] using hd
    have := (at_ k o ho).2
    rw [if_pos hk] at this
    simp only [Bool.and_eq_true, List.all_eq_true] at this
    have := this.2 j (by simpa using hj)
    simp [hod, hd'] at this
theorem drawOk_spec {ops : Array Oper} {m : Nat} {dp : List (List Nat)} (h : drawOk ops m dp = true) : DrawOk ops m dp := by
  unfold drawOk at h
  rw [Bool.and_eq_true] at h
  exact drawBase_spec h.1

theorem look_filter {p : Nat → Bool} : ∀ (T : List (Nat × Value)) (t : Nat), look (T.filter fun e => p e.1) t = if p t = true then look T t else none
  | [], t => by simp [look]
  | (u, v) :: T, t => by
    simp only [List.filter_cons, look]
    by_cases hu : p u = true
    · rw [if_pos hu]
      simp only [look]
      by_cases ht : t = u
      · subst ht; simp [hu]
      · rw [if_neg ht, if_neg ht]; exact look_filter T t
    · rw [if_neg hu]
      by_cases ht : t = u
      · subst ht
        rw [look_filter T t, if_neg hu, if_neg hu]
      · rw [if_neg ht]; exact look_filter T t

/-- What is known of each stable operation: its environment, its outcome, its new slots. -/
structure Outs (P : Program) (ops : Array Oper) (dp : List (List Nat)) (n : Nat) (M0 : Mem) (m : Nat) (T : Nat → List (Nat × Value)) (vs : Nat → Value) (Ns : List (List Slot)) : Prop where
  len : Ns.length = m
  env : ∀ k o, k < m → ops[k]? = some o → T (k + 1) = (St.put ⟨n, T k, M0⟩ o.dst (vs k)).T
  out : ∀ k o, k < m → ops[k]? = some o → let M := M0 ++ maskP (Ns.take k) 0 fun j => (dp.getD k []).contains j
    awG ops o ⟨n, T k, M⟩ (∃ M', Ns[k]? = some (M'.drop M.length) ∧ ∀ K' : Value → Mem → Prop, K' (vs k) M' → awOp P true M.length o ⟨n, T k, M⟩ K') (vs k = undef ∧ Ns[k]? = some [])
theorem awG_cases {ops : Array Oper} {o : Oper} {S : St} {A B : Prop} (h : awG ops o S A B) : (A ∧ ∀ B', awG ops o S A B') ∨ (B ∧ ∀ A', awG ops o S A' B) := by
  unfold awG at h ⊢
  cases hg : o.guard with
  | none => rw [hg] at h; exact .inl ⟨h, fun _ => h⟩
  | some jw =>
    obtain ⟨j, want⟩ := jw
    rw [hg] at h
    obtain ⟨g, h1, h2⟩ := ow_iff.1 h
    simp only [h1, ow_some]
    cases g <;> simp only at h2 <;> try exact h2.elim
    · rename_i y
      by_cases hy : y = want
      · have ha := h2.1 hy
        exact .inl ⟨ha, fun B' => ⟨fun _ => ha, fun h => by subst hy; cases y <;> cases h⟩⟩
      · have hb := h2.2 (by cases y <;> cases want <;> simp_all)
        exact .inr ⟨hb, fun A' => ⟨fun h => absurd h hy, fun _ => hb⟩⟩
    · exact .inr ⟨h2, fun _ => h2⟩
theorem awG_mono {ops : Array Oper} {o : Oper} {S : St} {A B A' B' : Prop} (h : awG ops o S A B) (ha : A → A') (hb : B → B') : awG ops o S A' B' := by
  unfold awG at h ⊢
  cases hg : o.guard with
  | none => rw [hg] at h; exact ha h
  | some jw =>
    obtain ⟨j, want⟩ := jw
    rw [hg] at h
    obtain ⟨g, h1, h2⟩ := ow_iff.1 h
    simp only [h1, ow_some]
    cases g <;> simp only at h2 ⊢ <;> try exact h2.elim
    · exact ⟨fun h => ha (h2.1 h), fun h => hb (h2.2 h)⟩
    · exact hb h2
theorem awD_outs {P : Program} {ops : Array Oper} {dp : List (List Nat)} {n : Nat} {M0 : Mem} {Q : St → Prop} : ∀ (os : List Oper) (k m : Nat) (T : Nat → List (Nat × Value)) (vs : Nat → Value) (Ns : List (List Slot)),
    (∀ i, os[i]? = if i < os.length then ops[k + i]? else none) → k + os.length = m → Outs P ops dp n M0 k T vs Ns → awD P ops dp n M0 Q os k (T k) Ns →
    ∃ T' vs' Ns', Outs P ops dp n M0 m T' vs' Ns' ∧ T' 0 = T 0 ∧ Q ⟨n, T' m, M0 ++ Ns'.flatten⟩ := by
  intro os
  induction os with
  | nil =>
    intro k m T vs Ns _ hm hO h
    simp only [List.length_nil, Nat.add_zero] at hm
    subst hm
    exact ⟨T, vs, Ns, hO, rfl, h⟩
  | cons o os ih =>
    intro k m T vs Ns hos hm hO h
    simp only [List.length_cons] at hm hos
    have ho : ops[k]? = some o := by have := hos 0; simpa using this.symm
    have hos' : ∀ i, os[i]? = if i < os.length then ops[k + 1 + i]? else none := fun i => by
      have := hos (i + 1)
      simp only [List.getElem?_cons_succ] at this
      rw [this]
      by_cases hi : i < os.length
      · rw [if_pos (by omega), if_pos hi, show k + (i + 1) = k + 1 + i by omega]
      · rw [if_neg (by omega), if_neg hi]
    simp only [awD] at h
    -- go on with one more outcome
    have next : ∀ (v : Value) (N : List Slot), awD P ops dp n M0 Q os (k + 1) (St.put ⟨n, T k, M0⟩ o.dst v).T (Ns ++ [N]) →
        (awG ops o ⟨n, T k, M0 ++ maskP Ns 0 fun j => (dp.getD k []).contains j⟩ (∃ M', N = M'.drop (M0 ++ maskP Ns 0 fun j => (dp.getD k []).contains j).length ∧ ∀ K' : Value → Mem → Prop, K' v M' → awOp P true (M0 ++ maskP Ns 0 fun j => (dp.getD k []).contains j).length o ⟨n, T k, M0 ++ maskP Ns 0 fun j => (dp.getD k []).contains j⟩ K') (v = undef ∧ N = [])) →
        ∃ T' vs' Ns', Outs P ops dp n M0 m T' vs' Ns' ∧ T' 0 = T 0 ∧ Q ⟨n, T' m, M0 ++ Ns'.flatten⟩ := by
      intro v N hD hG
      have hO' : Outs P ops dp n M0 (k + 1) (fun i => if i = k + 1 then (St.put ⟨n, T k, M0⟩ o.dst v).T else T i) (fun i => if i = k then v else vs i) (Ns ++ [N]) := by
        refine ⟨by simp [hO.len], fun i o' hi ho' => ?_, fun i o' hi ho' => ?_⟩
        · by_cases hik : i = k
          · subst hik
            rw [ho] at ho'
            injection ho' with ho'
            subst ho'
            simp
          · simp only [if_neg (show ¬ i + 1 = k + 1 by omega), if_neg (show ¬ i = k + 1 by omega), if_neg hik]
            exact hO.env i o' (by omega) ho'
        · have hlen := hO.len
          by_cases hik : i = k
          · subst hik
            rw [ho] at ho'
            injection ho' with ho'
            subst ho'
            simp only [if_neg (show ¬ i = i + 1 by omega), if_true]
            have ht : (Ns ++ [N]).take i = Ns := by rw [← hlen]; simp
            have hg : (Ns ++ [N])[i]? = some N := by rw [← hlen]; simp
            rw [ht, hg]
            exact awG_mono hG (fun ⟨M', e1, e2⟩ => ⟨M', by rw [e1], e2⟩) (fun ⟨e1, e2⟩ => ⟨e1, by rw [e2]⟩)
          · simp only [if_neg (show ¬ i = k + 1 by omega), if_neg hik]
            have ht : (Ns ++ [N]).take i = Ns.take i := by rw [List.take_append_of_le_length (by omega)]
            have hg : (Ns ++ [N])[i]? = Ns[i]? := List.getElem?_append_left (by omega)
            rw [ht, hg]
            exact hO.out i o' (by omega) ho'
      obtain ⟨T', vs', Ns', h1, h2, h3⟩ := ih (k + 1) m _ _ _ hos' (by omega) hO' (by simpa using hD)
      exact ⟨T', vs', Ns', h1, by rw [h2]; exact if_neg (by omega), h3⟩
    rcases awG_cases h with ⟨hA, hG⟩ | ⟨hB, hG⟩
    · obtain ⟨v, M', h1, h2⟩ := awOp_pt o _ hA
      refine next v _ h1 ?_
      have := hG (v = undef ∧ M'.drop (M0 ++ maskP Ns 0 fun j => (dp.getD k []).contains j).length = [])
      exact awG_mono this (fun _ => ⟨M', rfl, h2⟩) id
    · refine next undef [] hB ?_
      exact awG_mono (hG False) (fun h => h.elim) (fun _ => ⟨rfl, rfl⟩)
end Go.Proofs.YtodbjnngkonklaaGreat

namespace Go.Proofs.YtodbjnngkonklaaGreat
open Go.RowKit
set_option linter.unusedVariables false
set_option linter.unusedSimpArgs false

theorem maskP_part {p : Nat → Bool} : ∀ (Ns : List (List Slot)) (j0 : Nat) (L : List Slot) (i : Nat) (s : Slot), (L ++ maskP Ns j0 p)[i]? = some s → s.known = true →
    L[i]? = some s ∨ ∃ j off, j < Ns.length ∧ p (j0 + j) = true ∧ i = L.length + (maskP (Ns.take j) j0 p).length + off ∧ (Ns.getD j [])[off]? = some s
  | [], _, L, i, s, h, _ => by simp [maskP] at h; exact .inl h
  | s0 :: ss, j0, L, i, s, h, hk => by
    simp only [maskP] at h
    rw [← List.append_assoc] at h
    rcases maskP_part ss (j0 + 1) _ i s h hk with h1 | ⟨j, off, h1, h2, h3, h4⟩
    · by_cases hi : i < L.length
      · rw [List.getElem?_append_left hi] at h1; exact .inl h1
      · rw [List.getElem?_append_right (by omega)] at h1
        by_cases hp : p j0 = true
        · rw [if_pos hp] at h1
          exact .inr ⟨0, i - L.length, by simp, hp, by simp [maskP]; omega, by simpa using h1⟩
        · rw [if_neg hp] at h1
          rw [holes_get h1] at hk
          cases hk
    · refine .inr ⟨j + 1, off, by simpa using h1, by rwa [show j0 + (j + 1) = j0 + 1 + j by omega], ?_, by simpa using h4⟩
      rw [h3]
      simp only [List.take_succ_cons, maskP, List.length_append]
      omega

section
variable {P : Program} {ops : Array Oper} {dp : List (List Nat)} {n m b : Nat} {M0 : Mem} {μ0 : Map} {w0 : World} {T : Nat → List (Nat × Value)} {vs : Nat → Value} {Ns : List (List Slot)}
def MK (M0 : Mem) (dp : List (List Nat)) (Ns : List (List Slot)) (k : Nat) : Mem := M0 ++ maskP (Ns.take k) 0 fun j => (dp.getD k []).contains j
def ME (M0 : Mem) (dp : List (List Nat)) (Ns : List (List Slot)) (k : Nat) : Mem := MK M0 dp Ns k ++ Ns.getD k []
def MA (M0 : Mem) (Ns : List (List Slot)) (X : Nat → Bool) : Mem := M0 ++ maskP Ns 0 X
structure Inv (ops : Array Oper) (dp : List (List Nat)) (n m b : Nat) (M0 : Mem) (μ0 : Map) (w0 : World) (T : Nat → List (Nat × Value)) (vs : Nat → Value) (Ns : List (List Slot)) (X : Nat → Bool) (μ : Map) (a : Act) (w : World) : Prop where
  sim : Sim (MA M0 Ns X) μ w
  step : Step b M0 μ0 w0 (MA M0 Ns X) μ w
  sim0 : Sim M0 μ w
  simj : ∀ j, j < m → X j = true → Sim (ME M0 dp Ns j) μ w
  size : a.tmps.size = n
  defers : a.defers = []
  e0 : ∀ t v, look (T 0) t = some v → t < n → (∀ j, j < m → dstOf ops j ≠ some t) → ∃ c, a.tmps[t]? = some c ∧ VRel M0 μ v c
  e1 : ∀ j t, j < m → X j = true → dstOf ops j = some t → t < n → ∃ c, a.tmps[t]? = some c ∧ VRel (ME M0 dp Ns j) μ (vs j) c

theorem split_at {k : Nat} (hk : k < Ns.length) : Ns = Ns.take k ++ (Ns.getD k [] :: Ns.drop (k + 1)) := by
  have : Ns.drop k = Ns.getD k [] :: Ns.drop (k + 1) := by
    rw [List.drop_eq_getElem_cons hk]
    simp [List.getElem?_eq_getElem hk]
  rw [← this, List.take_append_drop]
theorem MA_split {k : Nat} (hk : k < Ns.length) (X : Nat → Bool) : MA M0 Ns X = (M0 ++ maskP (Ns.take k) 0 X) ++ ((if X k = true then Ns.getD k [] else holes (Ns.getD k [])) ++ maskP (Ns.drop (k + 1)) (k + 1) X) := by
  unfold MA
  have h : maskP Ns 0 X = maskP (Ns.take k ++ (Ns.getD k [] :: Ns.drop (k + 1))) 0 X := congrArg (fun l => maskP l 0 X) (split_at hk)
  rw [h, maskP_append]
  simp only [maskP, List.length_take, Nat.zero_add]
  rw [show min k Ns.length = k by omega, List.append_assoc]
theorem MK_sub {k : Nat} (hk : k < Ns.length) {X : Nat → Bool} (hX : ∀ j, (dp.getD k []).contains j = true → X j = true) : Sub (MK M0 dp Ns k) (M0 ++ maskP (Ns.take k) 0 X) :=
  .append rfl (.refl _) (maskP_sub _ _ fun i _ _ h => hX i h)
theorem ME_sub (hO : DrawOk ops m dp) {k j : Nat} (hk : k < m) (hm : Ns.length = m) (hko : k < ops.size) (hj : (dp.getD k []).contains j = true) : Sub (ME M0 dp Ns j) (MK M0 dp Ns k) := by
  obtain ⟨o, ho⟩ : ∃ o, ops[k]? = some o := ⟨_, Array.getElem?_eq_getElem hko⟩
  have hjk := (hO.dep k o ho j hj).1
  have hs : Ns.take k = Ns.take j ++ (Ns.getD j [] :: (Ns.take k).drop (j + 1)) := by
    have h := split_at (Ns := Ns.take k) (k := j) (by simp; omega)
    rw [List.take_take, show min j k = j by omega] at h
    have e : (Ns.take k).getD j [] = Ns.getD j [] := by simp [List.getElem?_take, hjk]
    rwa [e] at h
  unfold ME MK
  rw [hs, maskP_append]
  simp only [maskP, List.length_take, Nat.zero_add]
  rw [show min j Ns.length = j by omega, if_pos hj, ← List.append_assoc M0]
  refine .append ?_ (.append rfl (.refl _) (maskP_sub _ _ fun i _ _ h => hO.trans k hk j hj i h)) ((Sub.refl _).left _)
  simp only [List.length_append]
  rw [maskP_len]
theorem ME_subA {j : Nat} (hj : j < Ns.length) {X : Nat → Bool} (hX : X j = true) (hd : ∀ i, (dp.getD j []).contains i = true → X i = true) : Sub (ME M0 dp Ns j) (MA M0 Ns X) := by
  rw [MA_split hj, if_pos hX]
  refine .append ?_ (MK_sub hj hd) ((Sub.refl _).left _)
  unfold MK
  simp only [List.length_append]
  rw [maskP_len]
theorem sub0 {A : Mem} : Sub M0 (M0 ++ A) := (Sub.refl _).left _

theorem look_T (hO : DrawOk ops m dp) (hU : Outs P ops dp n M0 m T vs Ns) : ∀ k, k ≤ m → (∀ j t, j < k → dstOf ops j = some t → look (T k) t = some (vs j)) ∧ ∀ t, (∀ j, j < k → dstOf ops j ≠ some t) → look (T k) t = look (T 0) t := by
  intro k
  induction k with
  | zero => exact fun _ => ⟨fun j t hj => by omega, fun _ _ => rfl⟩
  | succ k ih =>
    intro hk
    obtain ⟨h1, h2⟩ := ih (by omega)
    obtain ⟨o, ho⟩ : ∃ o, ops[k]? = some o := ⟨_, Array.getElem?_eq_getElem (by have := hO.le; omega)⟩
    have he := hU.env k o (by omega) ho
    have hd : dstOf ops k = o.dst := by simp [dstOf, ho]
    rw [he]
    cases hdst : o.dst with
    | none =>
      rw [hdst] at hd
      simp only [St.put]
      refine ⟨fun j t hj hjt => ?_, fun t ht => h2 t fun j hj => ht j (by omega)⟩
      by_cases hjk : j = k
      · subst hjk; rw [hd] at hjt; cases hjt
      · exact h1 j t (by omega) hjt
    | some d =>
      rw [hdst] at hd
      simp only [St.put, look]
      refine ⟨fun j t hj hjt => ?_, fun t ht => ?_⟩
      · by_cases hjk : j = k
        · subst hjk
          rw [hd] at hjt
          injection hjt with hjt
          rw [if_pos hjt.symm]
        · have hne : t ≠ d := fun e => hO.apart k d j (by omega) hd (by omega) (by rw [hjt, e])
          rw [if_neg hne]
          exact h1 j t (by omega) hjt
      · have hne : t ≠ d := fun e => ht k (by omega) (by rw [hd, e])
        rw [if_neg hne]
        exact h2 t fun j hj => ht j (by omega)

/-- The environment of a stable operation, where all on which it hangs has been done. -/
theorem Inv.simK (hO : DrawOk ops m dp) (hU : Outs P ops dp n M0 m T vs Ns) {X : Nat → Bool} {μ : Map} {a : Act} {w : World} (h : Inv ops dp n m b M0 μ0 w0 T vs Ns X μ a w) {k : Nat} (hk : k < m) (hd : ∀ j, (dp.getD k []).contains j = true → X j = true) : Sim (MK M0 dp Ns k) μ w := by
  have hlen := hU.len
  have hko : k < ops.size := by have := hO.le; omega
  have hsub : Sub (MK M0 dp Ns k) (MA M0 Ns X) := by rw [MA_split (k := k) (by omega)]; exact (MK_sub (k := k) (by omega) hd).left _
  refine ⟨fun id r hr => ?_, fun i j r s hi hj hne ho => h.sim.inj i j r s (hsub i _ hi rfl) (hsub j _ hj rfl) hne ho, fun hon => ⟨(h.sim.glob hon).1, (h.sim.glob hon).2.1, fun i r hi ho => (h.sim.glob hon).2.2 i r (hsub i _ hi rfl) ho⟩, fun id r es hr => h.sim.maps.1 id r es (hsub id _ hr rfl), fun i j r es es' hi hj => h.sim.maps.2 i j r es es' (hsub i _ hi rfl) (hsub j _ hj rfl)⟩
  rcases maskP_part _ _ _ _ _ hr rfl with h1 | ⟨j, off, h1, h2, h3, h4⟩
  · exact (h.sim0.row id r h1).sub sub0
  · rw [Nat.zero_add] at h2
    obtain ⟨o, ho⟩ : ∃ o, ops[k]? = some o := ⟨_, Array.getElem?_eq_getElem hko⟩
    have hjk := (hO.dep k o ho j h2).1
    have hrow : (ME M0 dp Ns j)[id]? = some (.live r) := by
      unfold ME MK
      have hl : (M0 ++ maskP (Ns.take j) 0 fun i => (dp.getD j []).contains i).length = M0.length + (maskP ((Ns.take k).take j) 0 fun i => (dp.getD k []).contains i).length := by
        rw [List.length_append, List.take_take, show min j k = j by omega, maskP_len]
      rw [List.getElem?_append_right (by omega), hl, h3]
      have e : (Ns.take k).getD j [] = Ns.getD j [] := by simp [List.getElem?_take, hjk]
      rw [e] at h4
      rw [show M0.length + (maskP ((Ns.take k).take j) 0 fun i => (dp.getD k []).contains i).length + off - (M0.length + (maskP ((Ns.take k).take j) 0 fun i => (dp.getD k []).contains i).length) = off by omega]
      exact h4
    exact ((h.simj j (by omega) (hd j h2)).row id r hrow).sub (ME_sub hO hk hlen hko h2)
def keepK (ops : Array Oper) (dp : List (List Nat)) (m k : Nat) (t : Nat) : Bool := (dp.getD k []).any (fun j => dstOf ops j == some t) || (List.range m).all fun j => dstOf ops j != some t
theorem Inv.envK (hO : DrawOk ops m dp) (hU : Outs P ops dp n M0 m T vs Ns) {X : Nat → Bool} {μ : Map} {a : Act} {w : World} (h : Inv ops dp n m b M0 μ0 w0 T vs Ns X μ a w) {k : Nat} (hk : k < m) (hd : ∀ j, (dp.getD k []).contains j = true → X j = true) :
    Env ⟨n, (T k).filter fun e => keepK ops dp m k e.1, MK M0 dp Ns k⟩ μ a := by
  have hlen := hU.len
  have hko : k < ops.size := by have := hO.le; omega
  obtain ⟨o, ho⟩ : ∃ o, ops[k]? = some o := ⟨_, Array.getElem?_eq_getElem hko⟩
  obtain ⟨l1, l2⟩ := look_T hO hU k (by omega)
  refine ⟨h.size, fun t v hv ht => ?_, h.defers⟩
  simp only at hv ht
  rw [look_filter] at hv
  split at hv
  · rename_i hkeep
    unfold keepK at hkeep
    rw [Bool.or_eq_true] at hkeep
    rcases hkeep with hk1 | hk1
    · rw [List.any_eq_true] at hk1
      obtain ⟨j, hj, hjt⟩ := hk1
      have hjt : dstOf ops j = some t := by simpa using hjt
      have hjc : (dp.getD k []).contains j = true := by simpa using hj
      have hjk := (hO.dep k o ho j hjc).1
      rw [l1 j t hjk hjt] at hv
      injection hv with hv
      subst hv
      obtain ⟨c, h1, h2⟩ := h.e1 j t (by omega) (hd j hjc) hjt ht
      exact ⟨c, h1, h2.sub (ME_sub hO hk hlen hko hjc)⟩
    · rw [List.all_eq_true] at hk1
      have hall : ∀ j, j < m → dstOf ops j ≠ some t := fun j hj => by have := hk1 j (List.mem_range.2 hj); simpa using this
      rw [l2 t fun j hj => hall j (by omega)] at hv
      obtain ⟨c, h1, h2⟩ := h.e0 t v hv ht hall
      exact ⟨c, h1, h2.sub sub0⟩
  · cases hv
end
end Go.Proofs.YtodbjnngkonklaaGreat

namespace Go.Proofs.YtodbjnngkonklaaGreat
open Go.RowKit
set_option linter.unusedVariables false
set_option linter.unusedSimpArgs false

section
variable {P : Program} {ops : Array Oper} {dp : List (List Nat)} {n m b : Nat} {M0 : Mem} {μ0 : Map} {w0 : World} {T : Nat → List (Nat × Value)} {vs : Nat → Value} {Ns : List (List Slot)}

theorem put_get {a : Act} {d : Option Tmp} {c : Value} {t : Nat} (h : d ≠ some t) : (a.put d c).tmps[t]? = a.tmps[t]? := by
  cases d with
  | none => rfl
  | some d =>
    simp only [Act.put]
    rw [Array.getElem?_setIfInBounds_ne (fun e => h (by rw [e]))]
theorem put_same {a : Act} {t : Tmp} {c : Value} (h : t < a.tmps.size) : (a.put (some t) c).tmps[t]? = some c := by
  simp only [Act.put]
  rw [Array.getElem?_setIfInBounds_self, if_pos h]

/-- One stable operation more has been done. -/
theorem Inv.next (hO : DrawOk ops m dp) (hU : Outs P ops dp n M0 m T vs Ns) {X X' : Nat → Bool} {μ μ2 : Map} {a : Act} {w w' : World} {k : Nat} {o : Oper} {c : Value}
    (h : Inv ops dp n m b M0 μ0 w0 T vs Ns X μ a w) (hk : k < m) (ho : ops[k]? = some o) (hXk : X k = false) (hX' : X' k = true) (hX : ∀ j, j ≠ k → X' j = X j) (hd : ∀ j, (dp.getD k []).contains j = true → X j = true)
    (hclos : ∀ k, X k = true → ∀ j, (dp.getD k []).contains j = true → X j = true)
    (hsim : Sim (MA M0 Ns X') μ2 w') (hstep : Step b M0 μ0 w0 (MA M0 Ns X') μ2 w') (hm1 : MapEq (MA M0 Ns X) μ μ2) (hblk : ∀ k, k < w.heap.size → w'.heap[k]? = w.heap[k]?) (hsz : w.heap.size ≤ w'.heap.size)
    (hME : Sim (ME M0 dp Ns k) μ2 w') (hv : VRel (ME M0 dp Ns k) μ2 (vs k) c) : Inv ops dp n m b M0 μ0 w0 T vs Ns X' μ2 (a.put o.dst c) w' := by
  have hlen := hU.len
  have hdk : dstOf ops k = o.dst := by simp [dstOf, ho]
  have mj : ∀ j, j < m → X j = true → MapEq (ME M0 dp Ns j) μ μ2 := fun j hj hXj i s hi hs => hm1 i s (ME_subA (by omega) hXj (hclos j hXj) i s hi hs) hs
  have m0 : MapEq M0 μ μ2 := fun i s hi hs => hm1 i s (sub0 i s hi hs) hs
  refine ⟨hsim, hstep, (h.sim0.grow hblk hsz).remap m0, fun j hj hXj => ?_, by cases hdd : o.dst <;> simp [Act.put, h.size], by cases hdd : o.dst <;> simp [Act.put, h.defers], fun t v hv' ht hall => ?_, fun j t hj hXj hjt ht => ?_⟩
  · by_cases hjk : j = k
    · subst hjk; exact hME
    · rw [hX j hjk] at hXj
      exact ((h.simj j hj hXj).grow hblk hsz).remap (mj j hj hXj)
  · obtain ⟨c0, h1, h2⟩ := h.e0 t v hv' ht hall
    refine ⟨c0, ?_, h2.remap m0⟩
    rw [put_get (by rw [← hdk]; exact hall k hk)]
    exact h1
  · by_cases hjk : j = k
    · subst hjk
      refine ⟨c, ?_, hv⟩
      rw [hdk] at hjt
      rw [hjt]
      exact put_same (by rw [h.size]; exact ht)
    · rw [hX j hjk] at hXj
      obtain ⟨c0, h1, h2⟩ := h.e1 j t hj hXj hjt ht
      refine ⟨c0, ?_, h2.remap (mj j hj hXj)⟩
      rw [put_get]
      · exact h1
      · rw [← hdk]
        intro e
        rcases Nat.lt_or_ge j k with hlt | hge
        · exact hO.apart k t j hk e hlt hjt
        · exact hO.apart j t k hj hjt (by omega) e

/-- A stable operation, all on which it hangs being done. -/
theorem Inv.op (hO : DrawOk ops m dp) (hU : Outs P ops dp n M0 m T vs Ns) {X X' : Nat → Bool} {μ : Map} {a : Act} {w : World} {k : Nat} {R : Exit → Act → World → Prop} {K : Act → World → Prop}
    (h : Inv ops dp n m b M0 μ0 w0 T vs Ns X μ a w) (hk : k < m) (hXk : X k = false) (hX' : X' k = true) (hX : ∀ j, j ≠ k → X' j = X j) (hd : ∀ j, (dp.getD k []).contains j = true → X j = true)
    (hclos : ∀ k, X k = true → ∀ j, (dp.getD k []).contains j = true → X j = true)
    (hK : ∀ μ' a' w', Inv ops dp n m b M0 μ0 w0 T vs Ns X' μ' a' w' → K a' w') : wpOp P ops R k K a w := by
  have hlen := hU.len
  have hko : k < ops.size := by have := hO.le; omega
  obtain ⟨o, ho⟩ : ∃ o, ops[k]? = some o := ⟨_, Array.getElem?_eq_getElem hko⟩
  have hS := h.simK hO hU hk hd
  have hE := h.envK hO hU hk hd
  obtain ⟨l1, l2⟩ := look_T hO hU k (by omega)
  have hout := hU.out k o hk ho
  simp only at hout
  unfold wpOp
  simp only [ho]
  have eX : MA M0 Ns X = (M0 ++ maskP (Ns.take k) 0 X) ++ (holes (Ns.getD k []) ++ maskP (Ns.drop (k + 1)) (k + 1) X) := by rw [MA_split (k := k) (by omega), hXk]; rfl
  have eX' : MA M0 Ns X' = (M0 ++ maskP (Ns.take k) 0 X) ++ (Ns.getD k [] ++ maskP (Ns.drop (k + 1)) (k + 1) X) := by
    rw [MA_split (k := k) (by omega), hX', if_pos rfl]
    rw [maskP_congr (p := X') (q := X) (Ns.take k) 0 fun i _ h2 => hX i (by simp at h2; omega), maskP_congr (p := X') (q := X) (Ns.drop (k + 1)) (k + 1) fun i h1 _ => hX i (by omega)]
  have run : (∃ M', Ns[k]? = some (M'.drop (MK M0 dp Ns k).length) ∧ ∀ K' : Value → Mem → Prop, K' (vs k) M' → awOp P true (MK M0 dp Ns k).length o ⟨n, T k, MK M0 dp Ns k⟩ K') → o.wp P a w K R := by
    rintro ⟨M', hN, hop⟩
    have hop' : awOp P true (MK M0 dp Ns k).length o ⟨n, (T k).filter fun e => keepK ops dp m k e.1, MK M0 dp Ns k⟩ (fun v M'' => v = vs k ∧ M'' = M') := by
      refine awOp_congr (S := ⟨n, T k, MK M0 dp Ns k⟩) rfl (fun x hx => ?_) (hop _ ⟨rfl, rfl⟩)
      cases x with
      | tmp t =>
        simp only [St.ev, St.get]
        split
        · rw [look_filter, if_pos]
          unfold keepK
          rw [Bool.or_eq_true]
          by_cases hex : ∃ j, j < m ∧ dstOf ops j = some t
          · obtain ⟨j, hj, hjt⟩ := hex
            left
            rw [List.any_eq_true]
            exact ⟨j, by simpa using hO.reads k o hk ho t hx j hj hjt, by simp [hjt]⟩
          · right
            rw [List.all_eq_true]
            intro j hj
            have : dstOf ops j ≠ some t := fun e => hex ⟨j, by simpa using hj, e⟩
            simpa using this
        · rfl
      | _ => rfl
    refine awOp_wp hop' hE hS fun v M'' c μ' w' hvM hv hS' hst => ?_
    obtain ⟨rfl, rfl⟩ := hvM
    simp only at hst hS' hv
    -- the new memory is the old one and more
    have hext : M'' = MK M0 dp Ns k ++ Ns.getD k [] := by
      have e1 : Ns.getD k [] = M''.drop (MK M0 dp Ns k).length := by rw [List.getD_eq_getElem?_getD, hN]; rfl
      rw [e1]
      have e2 : M''.take (MK M0 dp Ns k).length = MK M0 dp Ns k := by
        apply List.ext_getElem?
        intro i
        rw [List.getElem?_take]
        by_cases hi : i < (MK M0 dp Ns k).length
        · rw [if_pos hi]
          obtain ⟨s', h1, h2⟩ := hst.slot i _ (List.getElem?_eq_getElem hi)
          rw [h1, List.getElem?_eq_getElem hi]
          congr 1
          generalize (MK M0 dp Ns k)[i] = s at h2
          cases s <;> cases s' <;> simp_all [Slot.evolves]
        · rw [if_neg hi, List.getElem?_eq_none (by omega)]
      conv => lhs; rw [← List.take_append_drop (MK M0 dp Ns k).length M'', e2]
    subst hext
    have hl : (MK M0 dp Ns k).length = (M0 ++ maskP (Ns.take k) 0 X).length := by
      unfold MK
      simp only [List.length_append]
      rw [maskP_len]
    obtain ⟨μ2, s1, s2, s3, s4⟩ := Sim.merge (b := b) (M0 := M0) (μ0 := μ0) (w0 := w0) hl (MK_sub (by omega) hd) (by rw [← eX]; exact h.sim) hS' hst (by simp) (by rw [← eX]; exact h.step)
    rw [← eX'] at s1 s2
    rw [← eX] at s3
    have hblk : ∀ i, i < w.heap.size → w'.heap[i]? = w.heap[i]? := fun i hi => hst.block i hi (fun j r hj hr _ => absurd (List.getElem?_eq_some_iff.1 hr).1 (by omega)) (fun j r es hj hr => absurd (List.getElem?_eq_some_iff.1 hr).1 (by omega))
    exact hK μ2 _ w' (h.next hO hU hk ho hXk hX' hX hd hclos s1 s2 s3 hblk hst.size (hS'.remap s4) (hv.remap s4))
  have skip : vs k = undef → Ns[k]? = some [] → K (a.put o.dst undef) w := by
    intro e1 e2
    have eN : Ns.getD k [] = [] := by rw [List.getD_eq_getElem?_getD, e2]; rfl
    have eA : MA M0 Ns X' = MA M0 Ns X := by rw [eX, eX', eN]; rfl
    have eE : ME M0 dp Ns k = MK M0 dp Ns k := by unfold ME; rw [eN, List.append_nil]
    exact hK μ _ w (h.next hO hU hk ho hXk hX' hX hd hclos (by rw [eA]; exact h.sim) (by rw [eA]; exact h.step) (fun _ _ _ _ => ⟨rfl, rfl⟩) (fun _ _ => rfl) (Nat.le_refl _) (by rw [eE]; exact hS) (by rw [e1]; exact .tup rfl (fun i x y h => by simp at h)))
  unfold awG at hout
  cases hg : o.guard with
  | none =>
    rw [hg] at hout
    rw [if_pos (by simp [Region.wanted, hg])]
    exact .inl (run hout)
  | some jw =>
    obtain ⟨j, want⟩ := jw
    rw [hg] at hout
    obtain ⟨g, hg1, hout⟩ := ow_iff.1 hout
    obtain ⟨t, ht, hget⟩ := Option.bind_eq_some_iff.1 hg1
    have hjc := hO.guard k o j want hk ho hg
    have hjk := (hO.dep k o ho j hjc).1
    simp only [St.get] at hget
    split at hget
    · rename_i htn
      rw [l1 j t hjk ht] at hget
      injection hget with hget
      subst hget
      obtain ⟨c, hc1, hc2⟩ := h.e1 j t (by omega) (hd j hjc) ht htn
      have hy : yielded ops a.tmps j = match c with | .bool y => some y | _ => none := by
        unfold yielded
        have ht' : ((ops[j]?).bind (·.dst)) = some t := ht
        rw [ht']
        simp only [Option.bind_some, hc1]
        cases c <;> rfl
      cases hvj : vs j <;> rw [hvj] at hout hc2 <;> simp only at hout <;> try exact hout.elim
      · rename_i y
        have := hc2.bool
        subst this
        by_cases hyw : y = want
        · rw [if_pos (by simp [Region.wanted, hg, hy, hyw])]
          exact .inl (run (hout.1 hyw))
        · rw [if_neg (by simp [Region.wanted, hg, hy, hyw])]
          obtain ⟨e1, e2⟩ := hout.2 (by cases y <;> cases want <;> simp_all)
          exact skip e1 e2
      · obtain ⟨ys, rfl, -⟩ := hc2.tup_inv
        rw [if_neg (by simp [Region.wanted, hg, hy])]
        exact skip hout.1 hout.2
    · cases hget
end
end Go.Proofs.YtodbjnngkonklaaGreat

namespace Go.Proofs.YtodbjnngkonklaaGreat
open Go.RowKit
set_option linter.unusedVariables false
set_option linter.unusedSimpArgs false

theorem countP_lt {p q : Nat → Bool} : ∀ {l : List Nat}, (∀ i ∈ l, p i = true → q i = true) → (∃ i ∈ l, q i = true ∧ p i = false) → l.countP p < l.countP q
  | [], _, ⟨i, hi, _⟩ => by cases hi
  | x :: l, h, ⟨i, hi, h1, h2⟩ => by
    simp only [List.countP_cons]
    have hle : l.countP p ≤ l.countP q := List.countP_mono_left fun i hi => h i (List.mem_cons_of_mem _ hi)
    rcases List.mem_cons.1 hi with rfl | hi
    · rw [if_pos h1, if_neg (by simp [h2])]; omega
    · have := countP_lt (fun i hi => h i (List.mem_cons_of_mem _ hi)) ⟨i, hi, h1, h2⟩
      have hx := h x (List.mem_cons_self)
      by_cases hp : p x = true
      · rw [if_pos hp, if_pos (hx hp)]; omega
      · rw [if_neg hp]; split <;> omega
def left_ (ops : Array Oper) (listed : Array Bool) : Nat := (List.range ops.size).countP fun i => !listed.getD i true
theorem left_lt {ops : Array Oper} {listed : Array Bool} {i : Nat} (hs : listed.size = ops.size) (hi : i < ops.size) (hl : listed.getD i true = false) : left_ ops (listed.setIfInBounds i true) < left_ ops listed := by
  refine countP_lt (fun j hj h => ?_) ⟨i, List.mem_range.2 hi, by simp [hl], ?_⟩
  · by_cases hij : j = i
    · subst hij; simp [hl]
    · simp only [Array.getD_eq_getD_getElem?] at h ⊢
      rw [Array.getElem?_setIfInBounds_ne (by omega)] at h
      exact h
  · simp only [Array.getD_eq_getD_getElem?]
    rw [Array.getElem?_setIfInBounds_self, if_pos (by omega)]
    rfl

section
variable {P : Program} {ops : Array Oper} {dp : List (List Nat)} {n m b : Nat}
theorem ready_iff {listed : Array Bool} {i : Nat} : i ∈ Region.ready .any ops listed ↔ ∃ o, ops[i]? = some o ∧ listed.getD i true = false ∧ ∀ e ∈ o.after.toList, Region.binds .any e = true → listed.getD e.on false = true := by
  unfold Region.ready
  rw [List.mem_filter, List.mem_range]
  constructor
  · rintro ⟨h1, h2⟩
    obtain ⟨o, ho⟩ : ∃ o, ops[i]? = some o := ⟨_, Array.getElem?_eq_getElem h1⟩
    rw [ho] at h2
    simp only [Bool.and_eq_true, Bool.not_eq_true', Option.map_some, Option.getD_some, Array.all_eq_true, Bool.or_eq_true] at h2
    refine ⟨o, ho, h2.1, fun e he hb => ?_⟩
    obtain ⟨j, hj, rfl⟩ := List.getElem_of_mem he
    have := h2.2 j (by simpa using hj)
    simp at hb
    simpa [hb] using this
  · rintro ⟨o, ho, h1, h2⟩
    refine ⟨(Array.getElem?_eq_some_iff.1 ho).1, ?_⟩
    rw [ho]
    simp only [Bool.and_eq_true, Bool.not_eq_true', Option.map_some, Option.getD_some, Array.all_eq_true, Bool.or_eq_true]
    refine ⟨h1, fun j hj => ?_⟩
    cases hb : Region.binds .any o.after[j] with
    | false => exact .inl rfl
    | true => exact .inr (h2 _ (by simp) hb)
theorem getD_tf {listed : Array Bool} {i : Nat} (hs : i < listed.size) : listed.getD i true = listed.getD i false := by
  simp [Array.getD_eq_getD_getElem?, Array.getElem?_eq_getElem hs]
theorem getD_set {listed : Array Bool} {i j : Nat} (hs : i < listed.size) : (listed.setIfInBounds i true).getD j false = if j = i then true else listed.getD j false := by
  simp only [Array.getD_eq_getD_getElem?]
  by_cases h : j = i
  · subst h
    rw [if_pos rfl, Array.getElem?_setIfInBounds_self, if_pos hs]
    rfl
  · rw [if_neg h, Array.getElem?_setIfInBounds_ne (by omega)]

/-- The ordered tail. -/
theorem tail_any (hO : DrawOk ops m dp) (hT : ∀ k, m ≤ k → k < ops.size → ∀ j, j < k → (dp.getD k []).contains j = true) {Q : St → Prop} : ∀ (fuel k : Nat) (listed : Array Bool) (S : St) (μ : Map) (a : Act) (w : World) (R : Exit → Act → World → Prop), m ≤ k → k ≤ ops.size → listed.size = ops.size → (∀ i, i < ops.size → listed.getD i false = decide (i < k)) → ops.size - k ≤ fuel →
    awOps P b ops Q (ops.toList.drop k) S → Env S μ a → Sim S.M μ w → (∀ S' μ' a' w', Q S' → Env S' μ' a' → Sim S'.M μ' w' → Step b S.M μ w S'.M μ' w' → R .normal a' w') → wpAny P .any ops R fuel listed a w := by
  intro fuel
  induction fuel with
  | zero =>
    intro k listed S μ a w R hm hk hs hl hf h hE hS hR
    obtain rfl : k = ops.size := by omega
    rw [List.drop_of_length_le (by simp)] at h
    refine ⟨?_, hR S μ a w h hE hS .refl⟩
    apply List.eq_nil_iff_forall_not_mem.2
    intro i hi
    obtain ⟨o, ho, h1, -⟩ := ready_iff.1 hi
    have hio := (Array.getElem?_eq_some_iff.1 ho).1
    rw [getD_tf (by omega), hl i hio] at h1
    simp at h1
    omega
  | succ fuel ih =>
    intro k listed S μ a w R hm hk hs hl hf h hE hS hR
    by_cases hke : k = ops.size
    · subst hke
      rw [List.drop_of_length_le (by simp)] at h
      have hnil : Region.ready .any ops listed = [] := by
        apply List.eq_nil_iff_forall_not_mem.2
        intro i hi
        obtain ⟨o, ho, h1, -⟩ := ready_iff.1 hi
        have hio := (Array.getElem?_eq_some_iff.1 ho).1
        rw [getD_tf (by omega), hl i hio] at h1
        simp at h1
        omega
      refine ⟨fun _ => hR S μ a w h hE hS .refl, fun i hi => by rw [hnil] at hi; cases hi⟩
    · have hk' : k < ops.size := by omega
      obtain ⟨o, ho⟩ : ∃ o, ops[k]? = some o := ⟨_, Array.getElem?_eq_getElem hk'⟩
      have hready : k ∈ Region.ready .any ops listed := ready_iff.2 ⟨o, ho, by rw [getD_tf (by omega), hl k hk']; simp, fun e he hb => by
        have := hO.back k o ho e he hb
        rw [hl e.on (by omega)]
        simpa using this⟩
      refine ⟨(fun h0 => by rw [h0] at hready; cases hready), fun i hi => ?_⟩
      have hik : i = k := by
        obtain ⟨o', ho', h1, h2⟩ := ready_iff.1 hi
        have hio := (Array.getElem?_eq_some_iff.1 ho').1
        rw [getD_tf (by omega), hl i hio] at h1
        have hge : k ≤ i := by simpa using h1
        rcases Nat.lt_or_ge k i with hlt | hge'
        · exfalso
          have hc := hT i (by omega) hio k hlt
          obtain ⟨-, e, he, hb, he2⟩ := hO.dep i o' ho' k hc
          have hle := h2 e he hb
          have heo := hO.back i o' ho' e he hb
          rw [hl e.on (by omega)] at hle
          have hek : e.on < k := by simpa using hle
          rcases he2 with he2 | he2
          · omega
          · obtain ⟨oe, hoe⟩ : ∃ oe, ops[e.on]? = some oe := ⟨_, Array.getElem?_eq_getElem (by omega)⟩
            have := (hO.dep e.on oe hoe k he2).1
            omega
        · omega
      subst hik
      have hdrop : ops.toList.drop i = o :: ops.toList.drop (i + 1) := by
        rw [List.drop_eq_getElem_cons (by simpa using hk')]
        congr 1
        have := (Array.getElem?_eq_some_iff.1 ho).2
        simpa using this
      rw [hdrop] at h
      have hl' : ∀ j, j < ops.size → (listed.setIfInBounds i true).getD j false = decide (j < i + 1) := by
        intro j hj
        rw [getD_set (by omega)]
        by_cases hji : j = i
        · rw [if_pos hji]; simp; omega
        · rw [if_neg hji, hl j hj]
          congr 1
          simp only [eq_iff_iff]
          omega
      unfold wpOp
      simp only [ho]
      have go : (awOp P false b o S fun v M' => awOps P b ops Q (ops.toList.drop (i + 1)) (St.put { S with M := M' } o.dst v)) → o.wp P a w (wpAny P .any ops R fuel (listed.setIfInBounds i true)) R := fun h' =>
        awOp_wp h' hE hS fun v M' c μ' w' hK hv hS' hst => ih (i + 1) _ _ μ' _ w' R (by omega) (by omega) (by simpa using hs) hl' (by omega) hK (hE.put hst hv o.dst) (by cases o.dst <;> exact hS')
          fun S'' μ'' a'' w'' q1 q2 q3 q4 => hR S'' μ'' a'' w'' q1 q2 q3 (hst.trans (by cases hd : o.dst <;> rw [hd] at q4 <;> exact q4))
      have skip : awOps P b ops Q (ops.toList.drop (i + 1)) (S.put o.dst undef) → wpAny P .any ops R fuel (listed.setIfInBounds i true) (a.put o.dst undef) w := fun h' => by
        have hE' := hE.put (b := b) (M' := S.M) (μ' := μ) (w := w) (w' := w) .refl (v := undef) (c := undef) (.tup rfl (fun i x y h => by simp at h)) o.dst
        exact ih (i + 1) _ _ μ _ w R (by omega) (by omega) (by simpa using hs) hl' (by omega) h' hE' (by cases o.dst <;> exact hS) fun S'' μ'' a'' w'' q1 q2 q3 q4 => hR S'' μ'' a'' w'' q1 q2 q3 (by cases hd : o.dst <;> rw [hd] at q4 <;> exact q4)
      simp only [awOps] at h
      cases hg : o.guard with
      | none =>
        rw [hg] at h
        rw [if_pos (by simp [Region.wanted, hg])]
        exact .inl (go h)
      | some jw =>
        obtain ⟨j, want⟩ := jw
        rw [hg] at h
        obtain ⟨g, hg1, h⟩ := ow_iff.1 h
        obtain ⟨t, ht, hget⟩ := Option.bind_eq_some_iff.1 hg1
        obtain ⟨c, hc1, hc2⟩ := get_rel hE hget
        have hy : yielded ops a.tmps j = match c with | .bool y => some y | _ => none := by
          unfold yielded
          rw [ht]
          simp only [Option.bind_some, hc1]
          cases c <;> rfl
        cases g <;> simp only at h <;> try exact h.elim
        · rename_i y
          have := hc2.bool
          subst this
          by_cases hyw : y = want
          · rw [if_pos (by simp [Region.wanted, hg, hy, hyw])]
            exact .inl (go (h.1 hyw))
          · rw [if_neg (by simp [Region.wanted, hg, hy, hyw])]
            exact skip (h.2 (by cases y <;> cases want <;> simp_all))
        · obtain ⟨ys, rfl, -⟩ := hc2.tup_inv
          rw [if_neg (by simp [Region.wanted, hg, hy])]
          exact skip h

variable {M0 : Mem} {μ0 : Map} {w0 : World} {T : Nat → List (Nat × Value)} {vs : Nat → Value} {Ns : List (List Slot)}
/-- The stable part, in any order, and the tail. -/
theorem stage_any (hO : DrawOk ops m dp) (hT : ∀ k, m ≤ k → k < ops.size → ∀ j, j < k → (dp.getD k []).contains j = true) (hU : Outs P ops dp n M0 m T vs Ns) {Q : St → Prop} {R : Exit → Act → World → Prop} (hQ : awOps P b ops Q (ops.toList.drop m) ⟨n, T m, M0 ++ Ns.flatten⟩)
    (hR : ∀ S' μ' a' w', Q S' → Env S' μ' a' → Sim S'.M μ' w' → Step b M0 μ0 w0 S'.M μ' w' → R .normal a' w') :
    ∀ (fuel : Nat) (listed : Array Bool) (μ : Map) (a : Act) (w : World), listed.size = ops.size → (∀ k, listed.getD k false = true → ∀ j, (dp.getD k []).contains j = true → listed.getD j false = true) → (∀ k, m ≤ k → listed.getD k false = false) →
      Inv ops dp n m b M0 μ0 w0 T vs Ns (fun j => listed.getD j false) μ a w → left_ ops listed ≤ fuel → wpAny P .any ops R fuel listed a w := by
  have hlen := hU.len
  -- when all stable operations are done
  have done : ∀ (fuel : Nat) (listed : Array Bool) (μ : Map) (a : Act) (w : World), listed.size = ops.size → (∀ k, m ≤ k → listed.getD k false = false) → (∀ k, k < m → listed.getD k false = true) →
      (∀ k, listed.getD k false = true → ∀ j, (dp.getD k []).contains j = true → listed.getD j false = true) →
      Inv ops dp n m b M0 μ0 w0 T vs Ns (fun j => listed.getD j false) μ a w → left_ ops listed ≤ fuel → wpAny P .any ops R fuel listed a w := by
    intro fuel listed μ a w hs hge hlt hcl hI hf
    have eA : MA M0 Ns (fun j => listed.getD j false) = M0 ++ Ns.flatten := by
      unfold MA
      rw [maskP_all _ _ _ fun i _ h2 => hlt i (by omega)]
    have hle := hO.le
    obtain ⟨l1, l2⟩ := look_T hO hU m (Nat.le_refl _)
    refine tail_any hO hT fuel m listed ⟨n, T m, M0 ++ Ns.flatten⟩ μ a w R (Nat.le_refl _) hle hs (fun i hi => ?_) ?_ hQ ⟨hI.size, fun t v hv ht => ?_, hI.defers⟩ (by rw [← eA]; exact hI.sim)
      fun S' μ' a' w' q1 q2 q3 q4 => hR S' μ' a' w' q1 q2 q3 ((by rw [← eA] at q4; exact hI.step.trans q4))
    · by_cases him : i < m
      · rw [hlt i him]; simp [him]
      · rw [hge i (by omega)]; simp [him]
    · refine Nat.le_trans ?_ hf
      unfold left_
      have : (List.range ops.size).countP (fun i => decide (m ≤ i)) ≤ (List.range ops.size).countP fun i => !listed.getD i true := by
        refine List.countP_mono_left fun i hi h => ?_
        have hio : i < ops.size := List.mem_range.1 hi
        rw [getD_tf (by omega), hge i (by simpa using h)]
        rfl
      refine Nat.le_trans ?_ this
      have cnt : ∀ N, N - m ≤ (List.range N).countP fun i => decide (m ≤ i) := by
        intro N
        induction N with
        | zero => simp
        | succ N ih =>
          rw [List.range_succ, List.countP_append]
          simp only [List.countP_cons, List.countP_nil]
          by_cases h : m ≤ N
          · simp [h]; omega
          · simp [h]; omega
      exact cnt ops.size
    · simp only at hv ht
      by_cases hex : ∃ j, j < m ∧ dstOf ops j = some t
      · obtain ⟨j, hj, hjt⟩ := hex
        rw [l1 j t hj hjt] at hv
        injection hv with hv
        subst hv
        obtain ⟨c, h1, h2⟩ := hI.e1 j t hj (hlt j hj) hjt ht
        refine ⟨c, h1, ?_⟩
        have := h2.sub (ME_subA (X := fun j => listed.getD j false) (by omega) (hlt j hj) (hcl j (hlt j hj)))
        rw [eA] at this
        exact this
      · have hall : ∀ j, j < m → dstOf ops j ≠ some t := fun j hj e => hex ⟨j, hj, e⟩
        rw [l2 t hall] at hv
        obtain ⟨c, h1, h2⟩ := hI.e0 t v hv ht hall
        exact ⟨c, h1, h2.sub sub0⟩
  intro fuel
  induction fuel with
  | zero =>
    intro listed μ a w hs hcl hge hI hf
    refine done 0 listed μ a w hs hge (fun k hk => ?_) hcl hI hf
    have hle := hO.le
    unfold left_ at hf
    have h0 : (List.range ops.size).countP (fun i => !listed.getD i true) = 0 := by omega
    rw [List.countP_eq_zero] at h0
    have := h0 k (List.mem_range.2 (by omega))
    rw [getD_tf (by omega)] at this
    simpa using this
  | succ fuel ih =>
    intro listed μ a w hs hcl hge hI hf
    by_cases hall : ∀ k, k < m → listed.getD k false = true
    · exact done (fuel + 1) listed μ a w hs hge hall hcl hI hf
    · have hle := hO.le
      have hex : ∃ k, k < m ∧ listed.getD k false = false := by
        rcases Classical.em (∃ k, k < m ∧ listed.getD k false = false) with h | h
        · exact h
        · exact absurd (fun k hk => by
            cases hv : listed.getD k false with
            | true => rfl
            | false => exact absurd ⟨k, hk, hv⟩ h) hall
      -- the least one that is not done is ready
      have hne : Region.ready .any ops listed ≠ [] := by
        have least : ∀ N k, k ≤ N → k < m → listed.getD k false = false → Region.ready .any ops listed ≠ [] := by
          intro N
          induction N with
          | zero =>
            intro k hk hkm hkl h0
            obtain rfl : k = 0 := by omega
            obtain ⟨o, ho⟩ : ∃ o, ops[0]? = some o := ⟨_, Array.getElem?_eq_getElem (by omega)⟩
            have : 0 ∈ Region.ready .any ops listed := ready_iff.2 ⟨o, ho, by rw [getD_tf (by omega)]; exact hkl, fun e he hb => by have := hO.back 0 o ho e he hb; omega⟩
            rw [h0] at this
            cases this
          | succ N ihN =>
            intro k hk hkm hkl h0
            by_cases hall : ∀ j, j < k → listed.getD j false = true
            · obtain ⟨o, ho⟩ : ∃ o, ops[k]? = some o := ⟨_, Array.getElem?_eq_getElem (by omega)⟩
              have : k ∈ Region.ready .any ops listed := ready_iff.2 ⟨o, ho, by rw [getD_tf (by omega)]; exact hkl, fun e he hb => hall _ (hO.back k o ho e he hb)⟩
              rw [h0] at this
              cases this
            · obtain ⟨j, hj⟩ := Classical.not_forall.1 hall
              have hjk : j < k := by
                rcases Nat.lt_or_ge j k with h | h
                · exact h
                · exact absurd (fun h' => by omega) hj
              refine ihN j (by omega) (by omega) ?_ h0
              cases hv : listed.getD j false with
              | false => rfl
              | true => exact absurd (fun _ => hv) hj
        obtain ⟨k, h1, h2⟩ := hex
        exact least k k (Nat.le_refl _) h1 h2
      refine ⟨fun h0 => absurd h0 hne, fun i hi => ?_⟩
      obtain ⟨o, ho, h1, h2⟩ := ready_iff.1 hi
      have hio := (Array.getElem?_eq_some_iff.1 ho).1
      have hd : ∀ j, (dp.getD i []).contains j = true → listed.getD j false = true := by
        intro j hj
        obtain ⟨-, e, he, hb, he2⟩ := hO.dep i o ho j hj
        rcases he2 with he2 | he2
        · rw [← he2]; exact h2 e he hb
        · exact hcl e.on (h2 e he hb) j he2
      have him : i < m := by
        rcases Nat.lt_or_ge i m with h | h
        · exact h
        · exfalso
          obtain ⟨k, hk1, hk2⟩ := hex
          have := hd k (hT i h hio k (by omega))
          rw [hk2] at this
          cases this
      have hX' : ∀ j, (listed.setIfInBounds i true).getD j false = if j = i then true else listed.getD j false := fun j => getD_set (by omega)
      refine hI.op (X' := fun j => (listed.setIfInBounds i true).getD j false) hO hU him (by rw [← getD_tf (by omega)]; exact h1) (by simp [hX']) (fun j hj => by simp [hX', hj]) hd hcl fun μ' a' w' hI' => ?_
      refine ih _ μ' a' w' (by simpa using hs) (fun k hk j hj => ?_) (fun k hk => ?_) hI' ?_
      · rw [hX'] at hk ⊢
        by_cases hji : j = i
        · rw [if_pos hji]
        · rw [if_neg hji]
          by_cases hki : k = i
          · subst hki; exact hd j hj
          · rw [if_neg hki] at hk; exact hcl k hk j hj
      · rw [hX', if_neg (by omega)]; exact hge k hk
      · have := left_lt hs hio h1
        omega
theorem awD_any {S : St} {Q : Ex → St → Prop} (hO : drawOk ops m dp = true)
    (h : awD P ops dp S.n S.M (fun S' => awOps P b ops (Q .normal) (ops.toList.drop m) S') (ops.toList.take m) 0 S.T []) : ∀ μ a w, Env S μ a → Sim S.M μ w → wpAny P .any ops (AQ b Q S.M μ w) ops.size (Array.replicate ops.size false) a { w with drawn := w.drawn + 1 } := by
  have hT := drawOk_tail hO
  have hO := drawOk_spec hO
  have hle := hO.le
  obtain ⟨T', vs', Ns', hU, hT0, hQ⟩ := awD_outs (P := P) (ops := ops) (dp := dp) (n := S.n) (M0 := S.M) (ops.toList.take m) 0 m (fun _ => S.T) (fun _ => undef) [] (fun i => by
    rw [List.getElem?_take, Nat.zero_add, List.length_take]
    by_cases hi : i < m
    · rw [if_pos hi, if_pos (by simp; omega)]; simp
    · rw [if_neg hi, if_neg (by omega)]) (by simp; omega) ⟨rfl, fun k o hk => by omega, fun k o hk => by omega⟩ h
  intro μ a w hE hS
  have hw : ({ w with drawn := w.drawn + 1 } : World).heap = w.heap := rfl
  have hS1 : Sim S.M μ { w with drawn := w.drawn + 1 } := hS.heap hw
  have hlen := hU.len
  have hmask : ∀ (i : Nat) s, (maskP Ns' 0 fun _ => false)[i]? = some s → s = .hole := by
    have key : ∀ (A : List (List Slot)) (j i : Nat) s, (maskP A j fun _ => false)[i]? = some s → s = .hole := by
      intro A
      induction A with
      | nil => intro j i s h; simp [maskP] at h
      | cons x A ih =>
        intro j i s h
        simp only [maskP] at h
        by_cases hi : i < (holes x).length
        · rw [if_neg (by simp), List.getElem?_append_left hi] at h
          exact holes_get h
        · rw [if_neg (by simp), List.getElem?_append_right (by omega)] at h
          exact ih _ _ _ h
    exact key Ns' 0
  have hX : (fun j => (Array.replicate ops.size false).getD j false) = fun _ => false := by
    funext j
    simp [Array.getD_eq_getD_getElem?, Array.getElem?_replicate]
    split <;> rfl
  have live0 : ∀ (i : Nat) r, (S.M ++ maskP Ns' 0 fun _ => false)[i]? = some (.live r) → S.M[i]? = some (.live r) := by
    intro i r hi
    by_cases hlt : i < S.M.length
    · rwa [List.getElem?_append_left hlt] at hi
    · rw [List.getElem?_append_right (by omega)] at hi
      cases hmask _ _ hi
  have mp0 : ∀ (i r : Nat) es, (S.M ++ maskP Ns' 0 fun _ => false)[i]? = some (.mp r es) → S.M[i]? = some (.mp r es) := by
    intro i r es hi
    by_cases hlt : i < S.M.length
    · rwa [List.getElem?_append_left hlt] at hi
    · rw [List.getElem?_append_right (by omega)] at hi
      cases hmask _ _ hi
  have hI : Inv ops dp S.n m b S.M μ w T' vs' Ns' (fun j => (Array.replicate ops.size false).getD j false) μ a { w with drawn := w.drawn + 1 } := by
    rw [hX]
    refine ⟨⟨fun i r hi => (hS1.row i r (live0 i r hi)).sub sub0, fun i j r s hi hj hne ho => hS1.inj i j r s (live0 i r hi) (live0 j s hj) hne ho, fun hon => ⟨(hS1.glob hon).1, (hS1.glob hon).2.1, fun i r hi ho => (hS1.glob hon).2.2 i r (live0 i r hi) ho⟩, fun id r es hr => hS1.maps.1 id r es (mp0 id r es hr), fun i j r es es' hi hj => hS1.maps.2 i j r es es' (mp0 i r es hi) (mp0 j r es' hj)⟩,
      ⟨fun i s hs => ⟨s, (by unfold MA; rw [List.getElem?_append_left (List.getElem?_eq_some_iff.1 hs).1]; exact hs), Slot.evolves_refl _ _⟩, fun _ _ => ⟨rfl, rfl⟩, rfl, rfl, rfl, Nat.le_refl _, fun _ _ _ _ => rfl, fun i r es hi hr => absurd (List.getElem?_eq_some_iff.1 (mp0 i r es hr)).1 (by omega), fun i r hi hr => ?_⟩,
      hS1, (fun j _ h => by cases h), hE.size, hE.defers, fun t v hv ht _ => ?_, (fun j t _ h => by cases h)⟩
    · have := (List.getElem?_eq_some_iff.1 (live0 i r hr)).1
      omega
    · rw [hT0] at hv
      exact hE.val t v hv ht
  refine stage_any hO hT hU (b := b) (μ0 := μ) (w0 := w) hQ (fun S' μ' a' w' q1 q2 q3 q4 => ⟨.normal, S', μ', rfl, q1, q2, q3, q4⟩) ops.size _ μ a _ (by simp) (fun k hk => ?_) (fun k hk => ?_) hI ?_
  · rw [congrFun hX k] at hk; cases hk
  · exact congrFun hX k
  · unfold left_
    refine Nat.le_trans (List.countP_le_length) (by simp)
theorem awD_region {S : St} {id : Nat} {Q : Ex → St → Prop} (hm : P.follows .mixedOrders = true) (hO : drawOk ops m dp = true)
    (h : awD P ops dp S.n S.M (fun S' => awOps P b ops (Q .normal) (ops.toList.drop m) S') (ops.toList.take m) 0 S.T []) : AW P b (.region id ops true) Q S :=
  fun μ a w hE hS => wp_region_any hm (awD_any hO h μ a w hE hS)
end
end Go.Proofs.YtodbjnngkonklaaGreat
