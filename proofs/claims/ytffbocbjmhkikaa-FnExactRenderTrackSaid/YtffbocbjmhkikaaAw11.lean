/- Memories that are known in part: what a region that draws its order needs. No conditions. -/
import Derived.Test.YtffbocbjmhkikaaAw10
namespace Go.Proofs.Ytffbocbjmhkikaa
open Go.RowKit
set_option linter.unusedVariables false
set_option linter.unusedSimpArgs false

def holes (s : List Slot) : List Slot := s.map fun _ => .hole
@[simp] theorem holes_len (s : List Slot) : (holes s).length = s.length := by simp [holes]
@[simp] theorem holes_nil : holes [] = [] := rfl
theorem holes_get {s : List Slot} {i : Nat} {x : Slot} (h : (holes s)[i]? = some x) : x = .hole := by
  unfold holes at h
  rw [List.getElem?_map] at h
  obtain ⟨y, -, hy⟩ := Option.map_eq_some_iff.1 h
  exact hy.symm
/-- Segments, those that p does not name as holes. -/
def maskP : List (List Slot) → Nat → (Nat → Bool) → List Slot
  | [], _, _ => []
  | s :: ss, j, p => (if p j = true then s else holes s) ++ maskP ss (j + 1) p
theorem maskP_append (p : Nat → Bool) : ∀ (A B : List (List Slot)) (j : Nat), maskP (A ++ B) j p = maskP A j p ++ maskP B (j + A.length) p
  | [], B, j => by simp [maskP]
  | s :: A, B, j => by
    simp only [List.cons_append, maskP, List.append_assoc]
    rw [maskP_append p A B (j + 1)]
    simp only [List.length_cons, List.append_assoc]
    rw [show j + 1 + A.length = j + (A.length + 1) by omega]
theorem maskP_len (p q : Nat → Bool) : ∀ (A : List (List Slot)) (j : Nat), (maskP A j p).length = (maskP A j q).length
  | [], _ => rfl
  | s :: A, j => by
    simp only [maskP, List.length_append, maskP_len p q A (j + 1)]
    by_cases h1 : p j = true <;> by_cases h2 : q j = true <;> simp [h1, h2]
theorem maskP_congr {p q : Nat → Bool} : ∀ (A : List (List Slot)) (j : Nat), (∀ i, j ≤ i → i < j + A.length → p i = q i) → maskP A j p = maskP A j q
  | [], _, _ => rfl
  | s :: A, j, h => by
    simp only [maskP]
    rw [h j (Nat.le_refl _) (by simp), maskP_congr A (j + 1) fun i h1 h2 => h i (by omega) (by simp; omega)]
theorem maskP_all : ∀ (A : List (List Slot)) (j : Nat) (p : Nat → Bool), (∀ i, j ≤ i → i < j + A.length → p i = true) → maskP A j p = A.flatten
  | [], _, _, _ => rfl
  | s :: A, j, p, h => by
    simp only [maskP, List.flatten_cons]
    rw [if_pos (h j (Nat.le_refl _) (by simp)), maskP_all A (j + 1) p fun i h1 h2 => h i (by omega) (by simp; omega)]
/-- What A knows, B knows. -/
def Sub (A B : Mem) : Prop := ∀ (i : Nat) s, A[i]? = some s → s.known = true → B[i]? = some s
theorem Sub.refl (A : Mem) : Sub A A := fun _ _ h _ => h
theorem Sub.trans {A B C : Mem} (h : Sub A B) (h' : Sub B C) : Sub A C := fun i s hs hk => h' i s (h i s hs hk) hk
theorem Sub.append {A B C D : Mem} (hl : A.length = B.length) (h : Sub A B) (h' : Sub C D) : Sub (A ++ C) (B ++ D) := by
  intro i s hs hk
  by_cases hi : i < A.length
  · rw [List.getElem?_append_left hi] at hs
    rw [List.getElem?_append_left (by omega)]
    exact h i s hs hk
  · rw [List.getElem?_append_right (by omega)] at hs
    rw [List.getElem?_append_right (by omega), ← hl]
    exact h' _ s hs hk
theorem Sub.left {A B : Mem} (C : Mem) (h : Sub A B) : Sub A (B ++ C) := by
  intro i s hs hk
  have := h i s hs hk
  rw [List.getElem?_append_left (List.getElem?_eq_some_iff.1 this).1]
  exact this
theorem sub_holes (s t : List Slot) : Sub (holes s) t := fun i x hx hk => by rw [holes_get hx] at hk; cases hk
theorem maskP_sub {p q : Nat → Bool} : ∀ (A : List (List Slot)) (j : Nat), (∀ i, j ≤ i → i < j + A.length → p i = true → q i = true) → Sub (maskP A j p) (maskP A j q)
  | [], _, _ => .refl _
  | s :: A, j, h => by
    simp only [maskP]
    have hl : (if p j = true then s else holes s).length = (if q j = true then s else holes s).length := by
      by_cases h1 : p j = true <;> by_cases h2 : q j = true <;> simp [h1, h2]
    refine .append hl ?_ (maskP_sub A (j + 1) fun i h1 h2 => h i (by omega) (by simp; omega))
    by_cases h1 : p j = true
    · rw [if_pos h1, if_pos (h j (Nat.le_refl _) (by simp) h1)]; exact .refl _
    · rw [if_neg h1]; exact sub_holes _ _

section
variable {b : Nat} {A B M : Mem} {μ μ' : Map} {w w' : World}
theorem VRel.sub {v c : Value} (h : VRel A μ v c) (hs : Sub A B) : VRel B μ v c := h.same fun i s hi hk => ⟨hs i s hi hk, rfl, rfl⟩
/-- The same maps at what is known. -/
def MapEq (A : Mem) (μ μ' : Map) : Prop := ∀ (i : Nat) s, A[i]? = some s → s.known = true → μ'.at_ i = μ.at_ i ∧ μ'.room i = μ.room i
theorem VRel.remap {v c : Value} (h : VRel A μ v c) (hm : MapEq A μ μ') : VRel A μ' v c := h.same fun i s hi hk => ⟨hi, hm i s hi hk⟩
theorem RowRel.remap {id : Nat} {r : Row} (h : RowRel A μ w id r) (hi : A[id]? = some (.live r)) (hm : MapEq A μ μ') : RowRel A μ' w id r := by
  obtain ⟨h1, h2⟩ := hm id _ hi rfl
  refine ⟨by rw [h1]; exact h.lt, fun j c hc => ?_, fun ho => ?_⟩
  · obtain ⟨d, hd, hv⟩ := h.cell j c hc
    exact ⟨d, by rw [h1]; exact hd, hv.remap hm⟩
  · rw [h1, h2]; exact h.own ho
theorem RowRel.grow {id : Nat} {r : Row} (h : RowRel A μ w id r) (hb : ∀ k, k < w.heap.size → w'.heap[k]? = w.heap[k]?) (hs : w.heap.size ≤ w'.heap.size) : RowRel A μ w' id r := by
  refine ⟨Nat.lt_of_lt_of_le h.lt hs, fun j c hc => ?_, fun ho => ?_⟩
  · obtain ⟨d, hd, hv⟩ := h.cell j c hc
    exact ⟨d, by rw [World.cell?_of_block (w := w) (hb _ (by rw [block_add_]; exact h.lt))]; exact hd, hv⟩
  · obtain ⟨g, cur, fr, e1, e2, e3⟩ := h.own ho
    exact ⟨g, cur, fr, e1, by rw [hb g (by have := h.lt; rw [e1] at this; exact this)]; exact e2, e3⟩
theorem RowRel.sub {id : Nat} {r : Row} (h : RowRel A μ w id r) (hs : Sub A B) : RowRel B μ w id r := by
  refine ⟨h.lt, fun j c hc => ?_, h.own⟩
  obtain ⟨d, hd, hv⟩ := h.cell j c hc
  exact ⟨d, hd, hv.sub hs⟩
theorem Sim.remap (h : Sim A μ w) (hm : MapEq A μ μ') : Sim A μ' w :=
  ⟨fun id r hr => (h.row id r hr).remap hr hm, fun i j r s hi hj hne ho => by rw [(hm i _ hi rfl).1, (hm j _ hj rfl).1]; exact h.inj i j r s hi hj hne ho⟩
theorem Sim.grow (h : Sim A μ w) (hb : ∀ k, k < w.heap.size → w'.heap[k]? = w.heap[k]?) (hs : w.heap.size ≤ w'.heap.size) : Sim A μ w' :=
  ⟨fun id r hr => (h.row id r hr).grow hb hs, h.inj⟩

/-- A stable operation's outcome is laid into a memory that knows more. -/
theorem Sim.merge {L N R Mk : Mem} (hl : Mk.length = L.length) (hsub : Sub Mk L) (hA : Sim (L ++ (holes N ++ R)) μ w) (hN : Sim (Mk ++ N) μ' w') (hst : Step Mk.length Mk μ w (Mk ++ N) μ' w')
    {M0 : Mem} {μ0 : Map} {w0 : World} (hM0 : M0.length ≤ L.length) (h0 : Step b M0 μ0 w0 (L ++ (holes N ++ R)) μ w) :
    ∃ μ2, Sim (L ++ (N ++ R)) μ2 w' ∧ Step b M0 μ0 w0 (L ++ (N ++ R)) μ2 w' ∧ MapEq (L ++ (holes N ++ R)) μ μ2 ∧ MapEq (Mk ++ N) μ' μ2 := by
  let μ2 : Map := ⟨fun i => if L.length ≤ i ∧ i < L.length + N.length then μ'.at_ i else μ.at_ i, fun i => if L.length ≤ i ∧ i < L.length + N.length then μ'.room i else μ.room i⟩
  have hblk : ∀ k, k < w.heap.size → w'.heap[k]? = w.heap[k]? := fun k hk => hst.block k hk fun i r hi hr _ => absurd (List.getElem?_eq_some_iff.1 hr).1 (by omega)
  have m1 : MapEq (L ++ (holes N ++ R)) μ μ2 := by
    intro i s hi hk
    have hn : ¬ (L.length ≤ i ∧ i < L.length + N.length) := by
      rintro ⟨h1, h2⟩
      rw [List.getElem?_append_right h1, List.getElem?_append_left (by simp; omega)] at hi
      rw [holes_get hi] at hk
      cases hk
    exact ⟨if_neg hn, if_neg hn⟩
  have m2 : MapEq (Mk ++ N) μ' μ2 := by
    intro i s hi hk
    by_cases h1 : L.length ≤ i ∧ i < L.length + N.length
    · exact ⟨if_pos h1, if_pos h1⟩
    · have hlt := (List.getElem?_eq_some_iff.1 hi).1
      rw [List.length_append] at hlt
      have := hst.map i (by omega)
      exact ⟨(if_neg h1).trans this.1.symm, (if_neg h1).trans this.2.symm⟩
  have s1 : Sub (L ++ (holes N ++ R)) (L ++ (N ++ R)) := .append rfl (.refl _) (.append (by simp) (sub_holes _ _) (.refl _))
  have s2 : Sub (Mk ++ N) (L ++ (N ++ R)) := .append hl hsub ((Sub.refl _).left _)
  -- a known slot of the whole: old, or new
  have part : ∀ (i : Nat) r, (L ++ (N ++ R))[i]? = some (.live r) → (L ++ (holes N ++ R))[i]? = some (.live r) ∨ ((Mk ++ N)[i]? = some (.live r) ∧ Mk.length ≤ i) := by
    intro i r hi
    by_cases h1 : i < L.length
    · rw [List.getElem?_append_left h1] at hi
      left; rw [List.getElem?_append_left h1]; exact hi
    · rw [List.getElem?_append_right (by omega)] at hi
      by_cases h2 : i - L.length < N.length
      · rw [List.getElem?_append_left h2] at hi
        right
        rw [List.getElem?_append_right (by omega), hl]
        exact ⟨hi, by omega⟩
      · rw [List.getElem?_append_right (by omega)] at hi
        left
        rw [List.getElem?_append_right (by omega), List.getElem?_append_right (by simp; omega), holes_len]
        exact hi
  have newlt : ∀ (i : Nat) r, (Mk ++ N)[i]? = some (.live r) → Mk.length ≤ i → w.heap.size ≤ (μ'.at_ i).block := by
    intro i r hi hle
    rcases hst.fresh i r hle hi with h | ⟨j, r0, hj, h1, -⟩
    · exact h
    · exact absurd (List.getElem?_eq_some_iff.1 h1).1 (by omega)
  have hA2 : Sim (L ++ (holes N ++ R)) μ2 w' := (hA.grow hblk hst.size).remap m1
  have hN2 : Sim (Mk ++ N) μ2 w' := hN.remap m2
  refine ⟨μ2, ⟨fun i r hi => ?_, fun i j r s hi hj hne ho => ?_⟩, ⟨fun i s hs => ?_, fun i hi => ?_, ?_, ?_, ?_, ?_, fun k hk hn => ?_, fun i r hi hr => ?_⟩, m1, m2⟩
  · rcases part i r hi with h | ⟨h, -⟩
    · exact (hA2.row i r h).sub s1
    · exact (hN2.row i r h).sub s2
  · rcases part i r hi with h | ⟨h, hi'⟩ <;> rcases part j s hj with k | ⟨k, hj'⟩
    · exact hA2.inj i j r s h k hne ho
    · have a1 := (hA.row i r h).lt
      have a2 := newlt j s k hj'
      rw [(m1 i _ h rfl).1, (m2 j _ k rfl).1]
      omega
    · have a1 := (hA.row j s k).lt
      have a2 := newlt i r h hi'
      rw [(m2 i _ h rfl).1, (m1 j _ k rfl).1]
      omega
    · exact hN2.inj i j r s h k hne ho
  · obtain ⟨s', h1, h2⟩ := h0.slot i s hs
    have hi := (List.getElem?_eq_some_iff.1 hs).1
    rw [List.getElem?_append_left (by omega)] at h1
    exact ⟨s', by rw [List.getElem?_append_left (by omega)]; exact h1, h2⟩
  · have hn : ¬ (L.length ≤ i ∧ i < L.length + N.length) := by omega
    exact ⟨(if_neg hn).trans (h0.map i hi).1, (if_neg hn).trans (h0.map i hi).2⟩
  · exact hst.os.trans h0.os
  · exact hst.tape.trans h0.tape
  · exact hst.output.trans h0.output
  · exact Nat.le_trans h0.size hst.size
  · rw [hblk k (Nat.lt_of_lt_of_le hk h0.size), h0.block k hk hn]
  · rcases part i r hr with h | ⟨h, hi'⟩
    · rw [(m1 i _ h rfl).1]; exact h0.fresh i r hi h
    · rw [(m2 i _ h rfl).1]; exact .inl (Nat.le_trans h0.size (newlt i r h hi'))
end
end Go.Proofs.Ytffbocbjmhkikaa
