/- Memory steps of abstract states: new blocks, stores, appends. No conditions. -/
import Derived.Test.YtffbocbjmhkikaaAw1
namespace Go.Proofs.Ytffbocbjmhkikaa
open Go.RowKit
set_option linter.unusedVariables false
set_option linter.unusedSimpArgs false

theorem getElem?_snoc_lt {α : Type} {l : List α} {x : α} {i : Nat} (h : i < l.length) : (l ++ [x])[i]? = l[i]? := List.getElem?_append_left h
theorem getElem?_snoc_eq {α : Type} {l : List α} {x : α} : (l ++ [x])[l.length]? = some x := by simp
theorem getElem?_snoc_inv {α : Type} {l : List α} {x y : α} {i : Nat} (h : (l ++ [x])[i]? = some y) : (i < l.length ∧ l[i]? = some y) ∨ (i = l.length ∧ y = x) := by
  rcases Nat.lt_trichotomy i l.length with hi | hi | hi
  · exact .inl ⟨hi, by rwa [List.getElem?_append_left hi] at h⟩
  · subst hi; right; simp at h; exact ⟨rfl, h.symm⟩
  · rw [List.getElem?_eq_none (by simp; omega)] at h; cases h

def Map.set (μ : Map) (id : Nat) (a : Addr) (n : Nat) : Map := ⟨fun i => if i = id then a else μ.at_ i, fun i => if i = id then n else μ.room i⟩
@[simp] theorem Map.set_at (μ : Map) (id : Nat) (a : Addr) (n : Nat) : (μ.set id a n).at_ id = a := by simp [Map.set]
@[simp] theorem Map.set_room (μ : Map) (id : Nat) (a : Addr) (n : Nat) : (μ.set id a n).room id = n := by simp [Map.set]
theorem Map.set_at_ne {μ : Map} {id i : Nat} {a : Addr} {n : Nat} (h : i ≠ id) : (μ.set id a n).at_ i = μ.at_ i := by simp [Map.set, h]
theorem Map.set_room_ne {μ : Map} {id i : Nat} {a : Addr} {n : Nat} (h : i ≠ id) : (μ.set id a n).room i = μ.room i := by simp [Map.set, h]

section
variable {b : Nat} {M M' : Mem} {μ μ' : Map} {w w' : World}
/-- What an abstract value says depends on the known slots alone. -/
theorem VRel.same {v c : Value} (hv : VRel M μ v c) (h : ∀ i s, M[i]? = some s → s.known = true → M'[i]? = some s ∧ μ'.at_ i = μ.at_ i ∧ μ'.room i = μ.room i) : VRel M' μ' v c := by
  induction hv with
  | plain hp => exact .plain hp
  | ptr hs hk ha =>
    obtain ⟨h1, h2, h3⟩ := h _ _ hs hk
    exact .ptr h1 hk fun r hr => by rw [h2]; exact ha r hr
  | sl hs hk hn hc ha =>
    obtain ⟨h1, h2, h3⟩ := h _ _ hs hk
    exact .sl h1 hk hn hc fun r hr => by rw [h2, h3]; exact ha r hr
  | agg hsz _ ih => exact .agg hsz ih
  | tup hsz _ ih => exact .tup hsz ih
  | fn hsz _ hsz' _ ih ih' => exact .fn hsz ih hsz' ih'

/-- The heap alone counts. -/
theorem Sim.heap (h : Sim M μ w) (e : w'.heap = w.heap) : Sim M μ w' where
  row := fun id r hr => by
    obtain ⟨h1, h2, h3⟩ := h.row id r hr
    exact ⟨by rw [e]; exact h1, fun j c hc => by simpa [World.cell?, e] using h2 j c hc, by rw [e]; exact h3⟩
  inj := h.inj
theorem Step.heap (e : w'.heap = w.heap) (h1 : w'.os = w.os) (h2 : w'.tape = w.tape) (h3 : w'.output = w.output) : Step b M μ w M μ w' where
  slot := fun i s h => ⟨s, h, Slot.evolves_refl _ _⟩
  map := fun _ _ => ⟨rfl, rfl⟩
  os := h1
  tape := h2
  output := h3
  size := by rw [e]; exact Nat.le_refl _
  block := fun k _ _ => by rw [e]
  fresh := fun i r' hi h => absurd (List.getElem?_eq_some_iff.1 h).1 (by omega)

/-- A new block. -/
theorem Sim.allocF (h : Sim M μ w) {xs : List Value} {cur : Array Value} {elem : TypeId} {esz : Nat} {tight : Bool} {fr : Nat × Nat} (hfr : ∀ j, j < cur.size → ¬ (fr.1 ≤ j ∧ j < fr.2)) (hl : xs.length ≤ cur.size) (ht : tight = true → xs.length = cur.size)
    (hx : ∀ (j : Nat) c, xs[j]? = some c → ∃ d, cur[j]? = some d ∧ VRel M μ c d) :
    Sim (M ++ [.live ⟨xs, true, tight, elem, esz⟩]) (μ.set M.length ⟨w.heap.size, 0, none⟩ cur.size) (w.alloc (.cells cur elem fr)) ∧
    Step b M μ w (M ++ [.live ⟨xs, true, tight, elem, esz⟩]) (μ.set M.length ⟨w.heap.size, 0, none⟩ cur.size) (w.alloc (.cells cur elem fr)) := by
  have hst : Step b M μ w (M ++ [.live ⟨xs, true, tight, elem, esz⟩]) (μ.set M.length ⟨w.heap.size, 0, none⟩ cur.size) (w.alloc (.cells cur elem fr)) := by
    refine ⟨fun i s hs => ⟨s, ?_, Slot.evolves_refl _ _⟩, fun i hi => ⟨Map.set_at_ne (by omega), Map.set_room_ne (by omega)⟩, rfl, rfl, rfl, by simp, fun k hk _ => Below.heap_alloc _ _ _ hk, fun i r' hi hr => .inl ?_⟩
    · rw [getElem?_snoc_lt (List.getElem?_eq_some_iff.1 hs).1]; exact hs
    · rcases getElem?_snoc_inv hr with ⟨h1, _⟩ | ⟨rfl, _⟩
      · omega
      · simp
  have hnew : (w.alloc (.cells cur elem fr)).heap[w.heap.size]? = some (.cells cur elem fr) := heap_alloc_new w _
  refine ⟨⟨fun id r hr => ?_, fun i j r s hi hj hne ho => ?_⟩, hst⟩
  · rcases getElem?_snoc_inv hr with ⟨hlt, h1⟩ | ⟨rfl, h1⟩
    · obtain ⟨a1, a2, a3⟩ := h.row id r h1
      rw [(show (μ.set M.length ⟨w.heap.size, 0, none⟩ cur.size).at_ id = μ.at_ id from Map.set_at_ne (by omega)).symm] at a1 a2 a3
      refine ⟨by simp; omega, fun j c hc => ?_, fun ho => ?_⟩
      · obtain ⟨d, h2, h3⟩ := a2 j c hc
        exact ⟨d, by rw [World.cell?_alloc_lt _ _ _ (by rw [block_add_]; exact a1)]; exact h2, h3.step hst⟩
      · obtain ⟨b0, cur0, fr0, h2, h3, hf0, h4, h5⟩ := a3 ho
        refine ⟨b0, cur0, fr0, h2, ?_, hf0, ?_, h5⟩
        · rw [Below.heap_alloc _ _ _ (by rw [h2] at a1; exact a1)]; exact h3
        · rw [Map.set_room_ne (by omega)]; exact h4
    · injection h1 with h1
      subst h1
      refine ⟨by simp, fun j c hc => ?_, fun _ => ⟨w.heap.size, cur, fr, by simp, hnew, hfr, by simp, hl, ht⟩⟩
      obtain ⟨d, h2, h3⟩ := hx j c hc
      refine ⟨d, ?_, h3.step hst⟩
      rw [Map.set_at, Addr.add_lit]
      simp only [Nat.zero_add]
      rw [cell_of_row _ w.heap.size j cur elem fr hnew]
      exact h2
  · rcases getElem?_snoc_inv hi with ⟨hil, h1⟩ | ⟨rfl, h1⟩ <;> rcases getElem?_snoc_inv hj with ⟨hjl, h2⟩ | ⟨rfl, h2⟩
    · rw [Map.set_at_ne (by omega), Map.set_at_ne (by omega)]
      exact h.inj i j r s h1 h2 hne ho
    · rw [Map.set_at_ne (by omega), Map.set_at]
      have := (h.row i r h1).lt
      simp; omega
    · rw [Map.set_at, Map.set_at_ne (by omega)]
      have := (h.row j s h2).lt
      simp; omega
    · omega

theorem Sim.alloc (h : Sim M μ w) {xs : List Value} {cur : Array Value} {elem : TypeId} {esz : Nat} {tight : Bool} (hl : xs.length ≤ cur.size) (ht : tight = true → xs.length = cur.size)
    (hx : ∀ (j : Nat) c, xs[j]? = some c → ∃ d, cur[j]? = some d ∧ VRel M μ c d) :
    Sim (M ++ [.live ⟨xs, true, tight, elem, esz⟩]) (μ.set M.length ⟨w.heap.size, 0, none⟩ cur.size) (w.alloc (.cells cur elem)) ∧
    Step b M μ w (M ++ [.live ⟨xs, true, tight, elem, esz⟩]) (μ.set M.length ⟨w.heap.size, 0, none⟩ cur.size) (w.alloc (.cells cur elem)) :=
  h.allocF (fr := (0, 0)) (fun j _ => by simp) hl ht hx

theorem getElem?_set_inv {α : Type} {l : List α} {x y : α} {i j : Nat} (h : (l.set i x)[j]? = some y) : (j = i ∧ y = x ∧ i < l.length) ∨ (j ≠ i ∧ l[j]? = some y) := by
  rw [List.getElem?_set] at h
  by_cases e : i = j
  · rw [if_pos e] at h
    split at h
    · injection h with h; exact .inl ⟨e.symm, h.symm, by omega⟩
    · cases h
  · rw [if_neg e] at h; exact .inr ⟨fun h' => e h'.symm, h⟩

/-- One cell is stored. -/
theorem Sim.store (h : Sim M μ w) {id j : Nat} {r : Row} {v c : Value} (hr : M[id]? = some (.live r)) (ho : r.own = true) (hb : b ≤ id) (hj : j < r.cells.length) (hv : VRel M μ v c) :
    Sim (M.set id (.live { r with cells := r.cells.set j v })) μ (w.setCell ((μ.at_ id).add j) c) ∧
    Step b M μ w (M.set id (.live { r with cells := r.cells.set j v })) μ (w.setCell ((μ.at_ id).add j) c) ∧ (∃ d, w.cell? ((μ.at_ id).add j) = some d) ∧ w.frozen? ((μ.at_ id).add j) = false := by
  obtain ⟨a1, a2, a3⟩ := h.row id r hr
  obtain ⟨g, cur, fr, e1, e2, ef, e3, e4, e5⟩ := a3 ho
  have hid := (List.getElem?_eq_some_iff.1 hr).1
  have hst : Step b M μ w (M.set id (.live { r with cells := r.cells.set j v })) μ (w.setCell ((μ.at_ id).add j) c) := by
    refine ⟨fun i s hs => ?_, fun _ _ => ⟨rfl, rfl⟩, rfl, rfl, rfl, by simp [World.setCell], fun k hk hn => ?_, fun i r' hi hr' => ?_⟩
    · by_cases e : i = id
      · subst e
        rw [hr] at hs
        injection hs with hs
        subst hs
        exact ⟨_, List.getElem?_set_self hid, rfl, rfl, rfl, rfl, by simp, fun h => by omega⟩
      · exact ⟨s, by rw [List.getElem?_set_ne (fun h => e h.symm)]; exact hs, Slot.evolves_refl _ _⟩
    · refine Below.heap_setCell _ _ _ _ ?_
      rw [block_add_]
      exact fun e => hn id r hb hr ho e.symm
    · have := (List.getElem?_eq_some_iff.1 hr').1
      rw [List.length_set] at this
      omega
  refine ⟨⟨fun i s hs => ?_, fun i i' r1 r2 h1 h2 hne ho1 => ?_⟩, hst, ?_, ?_⟩
  · rcases getElem?_set_inv hs with ⟨rfl, h1, -⟩ | ⟨hne, h1⟩
    · injection h1 with h1
      subst h1
      refine ⟨by simpa [World.setCell] using a1, fun k x hx => ?_, fun _ => ⟨g, cur.setIfInBounds j c, fr, e1, ?_, by simpa using ef, by simpa using e3, by simpa using e4, by simpa using e5⟩⟩
      · rcases getElem?_set_inv hx with ⟨rfl, rfl, -⟩ | ⟨hkj, h1⟩
        · refine ⟨c, ?_, hv.step hst⟩
          obtain ⟨d, hd, -⟩ := a2 k _ (List.getElem?_eq_getElem hj)
          exact World.cell?_setCell_same w _ c hd
        · obtain ⟨d, hd, hrel⟩ := a2 k x h1
          refine ⟨d, ?_, hrel.step hst⟩
          rw [World.cell?_setCell_other]
          · exact hd
          · intro e
            rw [e1, Addr.add_lit, Addr.add_lit] at e
            exact hkj (by simpa using e.symm)
      · rw [e1, Addr.add_lit]
        simp [World.setCell, Array.getElem?_modify, e2]
    · obtain ⟨b1, b2, b3⟩ := h.row i s h1
      have hblk : (μ.at_ id).block ≠ (μ.at_ i).block := h.inj id i r s hr h1 (fun e => hne e.symm) ho
      refine ⟨by simpa [World.setCell] using b1, fun k x hx => ?_, fun ho' => ?_⟩
      · obtain ⟨d, hd, hrel⟩ := b2 k x hx
        refine ⟨d, ?_, hrel.step hst⟩
        rw [World.cell?_setCell_other]
        · exact hd
        · intro e
          have := congrArg Addr.block e
          rw [block_add_, block_add_] at this
          exact hblk this
      · obtain ⟨g', cur', fr', f1, f2, f3⟩ := b3 ho'
        refine ⟨g', cur', fr', f1, ?_, f3⟩
        rw [Below.heap_setCell]
        · exact f2
        · rw [block_add_]
          rw [f1] at hblk
          exact fun e => hblk e.symm
  · have back : ∀ {i : Nat} {s : Row}, (M.set id (.live { r with cells := r.cells.set j v }))[i]? = some (.live s) → ∃ s0, M[i]? = some (.live s0) ∧ s.own = s0.own := by
      intro i s hs
      rcases getElem?_set_inv hs with ⟨rfl, h1, -⟩ | ⟨_, h1⟩
      · injection h1 with h1; subst h1; exact ⟨r, hr, rfl⟩
      · exact ⟨s, h1, rfl⟩
    obtain ⟨s1, k1, k2⟩ := back h1
    obtain ⟨s2, k3, -⟩ := back h2
    exact h.inj i i' s1 s2 k1 k3 hne (by rw [← k2]; exact ho1)
  · obtain ⟨d, hd, -⟩ := a2 j _ (List.getElem?_eq_getElem hj)
    exact ⟨d, hd⟩
  · rw [e1, Addr.add_lit]
    have := ef j (by omega)
    simp only [World.frozen?, e2]
    simp
    omega

/-- Some cells in a row are stored. -/
def splice (cs : List Value) (off : Nat) : List Value → List Value
  | [] => cs
  | v :: vs => splice (cs.set off v) (off + 1) vs
@[simp] theorem splice_len (vs : List Value) : ∀ (cs : List Value) (off : Nat), (splice cs off vs).length = cs.length := by
  induction vs with
  | nil => exact fun _ _ => rfl
  | cons v vs ih => intro cs off; rw [splice, ih]; simp

/-- A row is grown: its id dies, a new id has what it held and more, in the same block or a new one. -/
theorem Sim.renew (h : Sim M μ w) {id g : Nat} {r : Row} {xs : List Value} {cur : Array Value} (hr : M[id]? = some (.live r)) (ho : r.own = true) (hb : b ≤ id)
    (h1 : w'.os = w.os) (h2 : w'.tape = w.tape) (h3 : w'.output = w.output) (h4 : w.heap.size ≤ w'.heap.size) (h5 : ∀ k, k < w.heap.size → k ≠ (μ.at_ id).block → w'.heap[k]? = w.heap[k]?)
    {fr : Nat × Nat} (hg : w'.heap[g]? = some (.cells cur r.elem fr)) (hfr : ∀ j, j < cur.size → ¬ (fr.1 ≤ j ∧ j < fr.2)) (hgw : g = (μ.at_ id).block ∨ w.heap.size ≤ g) (hl : xs.length ≤ cur.size) {esz : Nat}
    (hx : ∀ (j : Nat) c, xs[j]? = some c → ∃ d, cur[j]? = some d ∧ VRel M μ c d) :
    Sim (M.set id .dead ++ [.live ⟨xs, true, false, r.elem, esz⟩]) (μ.set M.length ⟨g, 0, none⟩ cur.size) w' ∧
    Step b M μ w (M.set id .dead ++ [.live ⟨xs, true, false, r.elem, esz⟩]) (μ.set M.length ⟨g, 0, none⟩ cur.size) w' := by
  have hid := (List.getElem?_eq_some_iff.1 hr).1
  have hlt := (h.row id r hr).lt
  have hlen : (M.set id Slot.dead).length = M.length := by simp
  have inv : ∀ {i : Nat} {s : Row}, (M.set id Slot.dead ++ [Slot.live ⟨xs, true, false, r.elem, esz⟩])[i]? = some (.live s) → (i < M.length ∧ i ≠ id ∧ M[i]? = some (.live s)) ∨ (i = M.length ∧ s = ⟨xs, true, false, r.elem, esz⟩) := by
    intro i s hs
    rcases getElem?_snoc_inv hs with ⟨h6, h7⟩ | ⟨h6, h7⟩
    · rcases getElem?_set_inv h7 with ⟨-, h8, -⟩ | ⟨h8, h9⟩
      · cases h8
      · exact .inl ⟨by omega, h8, h9⟩
    · injection h7 with h7
      exact .inr ⟨by omega, h7⟩
  have hst : Step b M μ w (M.set id .dead ++ [.live ⟨xs, true, false, r.elem, esz⟩]) (μ.set M.length ⟨g, 0, none⟩ cur.size) w' := by
    refine ⟨fun i s hs => ?_, fun i hi => ⟨Map.set_at_ne (by omega), Map.set_room_ne (by omega)⟩, h1, h2, h3, h4, fun k hk hn => h5 k hk fun e => hn id r hb hr ho e.symm, fun i r' hi hr' => ?_⟩
    · have hi := (List.getElem?_eq_some_iff.1 hs).1
      rw [getElem?_snoc_lt (by omega)]
      by_cases e : i = id
      · subst e
        rw [hr] at hs
        injection hs with hs
        subst hs
        exact ⟨.dead, List.getElem?_set_self hid, by simp [Slot.evolves]; omega⟩
      · exact ⟨s, by rw [List.getElem?_set_ne (fun h => e h.symm)]; exact hs, Slot.evolves_refl _ _⟩
    · rcases inv hr' with ⟨h6, -⟩ | ⟨rfl, -⟩
      · omega
      · rw [Map.set_at]
        rcases hgw with e | e
        · exact .inr ⟨id, r, hb, hr, ho, e.symm⟩
        · exact .inl e
  have hgl : g < w'.heap.size := (Array.getElem?_eq_some_iff.1 hg).1
  have far : ∀ {i : Nat} {s : Row}, M[i]? = some (.live s) → i ≠ id → (μ.at_ i).block ≠ (μ.at_ id).block ∧ (μ.at_ i).block ≠ g := by
    intro i s hs hne
    have h6 := h.inj id i r s hr hs (fun e => hne e.symm) ho
    have h7 := (h.row i s hs).lt
    refine ⟨fun e => h6 e.symm, fun e => ?_⟩
    rcases hgw with e' | e'
    · exact h6 (by rw [e, e'])
    · omega
  refine ⟨⟨fun i s hs => ?_, fun i j r1 r2 hi hj hne ho1 => ?_⟩, hst⟩
  · rcases inv hs with ⟨h6, h7, h8⟩ | ⟨rfl, rfl⟩
    · obtain ⟨a1, a2, a3⟩ := h.row i s h8
      obtain ⟨f1, f2⟩ := far h8 h7
      rw [(show (μ.set M.length ⟨g, 0, none⟩ cur.size).at_ i = μ.at_ i from Map.set_at_ne (by omega)).symm] at a1 a2 a3 f1
      refine ⟨by omega, fun j c hc => ?_, fun ho' => ?_⟩
      · obtain ⟨d, h9, h10⟩ := a2 j c hc
        refine ⟨d, ?_, h10.step hst⟩
        rw [World.cell?_of_block (w := w) (h5 _ (by rw [block_add_]; exact a1) (by rw [block_add_]; exact f1))]
        exact h9
      · obtain ⟨b0, cur0, fr0, e2, e3, ef, e4, e5⟩ := a3 ho'
        refine ⟨b0, cur0, fr0, e2, ?_, ef, ?_, e5⟩
        · rw [h5 b0 (by rw [e2] at a1; exact a1) (by rw [e2] at f1; exact f1)]; exact e3
        · rw [Map.set_room_ne (by omega)]; exact e4
    · refine ⟨by rw [Map.set_at]; exact hgl, fun j c hc => ?_, fun _ => ⟨g, cur, fr, by simp, hg, hfr, by simp, hl, by simp⟩⟩
      obtain ⟨d, h6, h7⟩ := hx j c hc
      refine ⟨d, ?_, h7.step hst⟩
      rw [Map.set_at, Addr.add_lit]
      simp only [Nat.zero_add]
      rw [cell_of_row _ g j cur r.elem fr hg]
      exact h6
  · rcases inv hi with ⟨h6, h7, h8⟩ | ⟨rfl, rfl⟩ <;> rcases inv hj with ⟨k6, k7, k8⟩ | ⟨rfl, rfl⟩
    · rw [Map.set_at_ne (by omega), Map.set_at_ne (by omega)]
      exact h.inj i j r1 r2 h8 k8 hne ho1
    · rw [Map.set_at_ne (by omega), Map.set_at]
      exact (far h8 h7).2
    · rw [Map.set_at, Map.set_at_ne (by omega)]
      exact fun e => (far k8 k7).2 e.symm
    · omega
end
end Go.Proofs.Ytffbocbjmhkikaa
