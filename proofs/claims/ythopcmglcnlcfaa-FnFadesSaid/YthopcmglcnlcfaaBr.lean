/- From contracts about worlds to contracts about abstract states: lists of numbers. No conditions. -/
import Derived.Test.YthopcmglcnlcfaaL1
import Derived.Test.YthopcmglcnlcfaaOCore
namespace Go.Proofs.Ythopcmglcnlcfaa
open Go.RowKit
set_option linter.unusedVariables false
set_option linter.unusedSimpArgs false
theorem ints_cells (l : List Int) : Old.ints l = cellsL intR l := by
  induction l with
  | nil => rfl
  | cons a l ih => rw [cellsL_cons, ← ih]; rfl
theorem Sim.adopt {b : Nat} {M : Mem} {μ : Map} {w w' : World} (h : Sim M μ w) (hb : Below w.heap.size w w') {g esz : Nat} {cur : Array Value} {elem : TypeId} {xs : List Value} (hg : w.heap.size ≤ g) (hc : w'.heap[g]? = some (.cells cur elem (0, 0))) (hl : xs.length ≤ cur.size)
    (hp : ∀ (j : Nat) c, xs[j]? = some c → plainV c = true ∧ cur[j]? = some c) :
    Sim (M ++ [.live ⟨xs, true, false, elem, esz⟩]) (μ.set M.length ⟨g, 0, none⟩ cur.size) w' ∧ Step b M μ w (M ++ [.live ⟨xs, true, false, elem, esz⟩]) (μ.set M.length ⟨g, 0, none⟩ cur.size) w' := by
  have hst : Step b M μ w (M ++ [.live ⟨xs, true, false, elem, esz⟩]) (μ.set M.length ⟨g, 0, none⟩ cur.size) w' := by
    refine ⟨fun i s hs => ⟨s, ?_, Slot.evolves_refl _ _⟩, fun i hi => ⟨Map.set_at_ne (by omega), Map.set_room_ne (by omega)⟩, hb.os, hb.tape, hb.output, hb.size, fun k hk _ => hb.block k hk, fun i r' hi hr => .inl ?_⟩
    · rw [getElem?_snoc_lt (List.getElem?_eq_some_iff.1 hs).1]; exact hs
    · rcases getElem?_snoc_inv hr with ⟨h1, _⟩ | ⟨rfl, _⟩
      · omega
      · simpa using hg
  have hgl : g < w'.heap.size := by
    rcases Nat.lt_or_ge g w'.heap.size with h1 | h1
    · exact h1
    · rw [Array.getElem?_eq_none h1] at hc; cases hc
  refine ⟨⟨fun id r hr => ?_, fun i j r s hi hj hne ho => ?_⟩, hst⟩
  · rcases getElem?_snoc_inv hr with ⟨hlt, h1⟩ | ⟨rfl, h1⟩
    · obtain ⟨a1, a2, a3⟩ := h.row id r h1
      have e : (μ.set M.length ⟨g, 0, none⟩ cur.size).at_ id = μ.at_ id := Map.set_at_ne (by omega)
      refine ⟨by rw [e]; exact Nat.lt_of_lt_of_le a1 hb.size, fun j c hc' => ?_, fun ho => ?_⟩
      · obtain ⟨d, h2, h3⟩ := a2 j c hc'
        exact ⟨d, by rw [e, hb.cell (by rw [block_add_]; exact a1)]; exact h2, h3.step hst⟩
      · obtain ⟨b0, cur0, fr0, h2, h3, hf0, h4, h5⟩ := a3 ho
        refine ⟨b0, cur0, fr0, by rw [e]; exact h2, ?_, hf0, ?_, h5⟩
        · rw [hb.block _ (by rw [h2] at a1; exact a1)]; exact h3
        · rw [Map.set_room_ne (by omega)]; exact h4
    · injection h1 with h1
      subst h1
      refine ⟨by simpa using hgl, fun j c hj => ?_, fun _ => ⟨g, cur, (0, 0), by simp, hc, fun j _ => by simp, by simp, hl, fun h => by cases h⟩⟩
      obtain ⟨h2, h3⟩ := hp j c hj
      refine ⟨c, ?_, .plain h2⟩
      rw [Map.set_at, Addr.add_lit]
      simp only [Nat.zero_add]
      rw [cell_of_row _ g j cur elem (0, 0) hc]
      exact h3
  · rcases getElem?_snoc_inv hi with ⟨hil, h1⟩ | ⟨rfl, h1⟩ <;> rcases getElem?_snoc_inv hj with ⟨hjl, h2⟩ | ⟨rfl, h2⟩
    · rw [Map.set_at_ne (by omega), Map.set_at_ne (by omega)]
      exact h.inj i j r s h1 h2 hne ho
    · rw [Map.set_at_ne (by omega), Map.set_at]
      have := (h.row i r h1).lt
      simp; omega
    · rw [Map.set_at, Map.set_at_ne (by omega)]
      have := (h.row j s h2).lt
      simp; omega
    · omega
theorem Sim.below {b : Nat} {M : Mem} {μ : Map} {w w' : World} (h : Sim M μ w) (hb : Below w.heap.size w w') : Sim M μ w' ∧ Step b M μ w M μ w' := by
  refine ⟨⟨fun id r hr => ?_, h.inj⟩, ⟨fun i s hs => ⟨s, hs, Slot.evolves_refl _ _⟩, fun _ _ => ⟨rfl, rfl⟩, hb.os, hb.tape, hb.output, hb.size, fun k hk _ => hb.block k hk, fun i r' hi hr => absurd (List.getElem?_eq_some_iff.1 hr).1 (by omega)⟩⟩
  obtain ⟨a1, a2, a3⟩ := h.row id r hr
  refine ⟨Nat.lt_of_lt_of_le a1 hb.size, fun j c hc => ?_, fun ho => ?_⟩
  · obtain ⟨d, h2, h3⟩ := a2 j c hc
    exact ⟨d, by rw [hb.cell (by rw [block_add_]; exact a1)]; exact h2, h3⟩
  · obtain ⟨b0, cur0, fr0, h2, h3, rest⟩ := a3 ho
    exact ⟨b0, cur0, fr0, h2, by rw [hb.block _ (by rw [h2] at a1; exact a1)]; exact h3, rest⟩
theorem intR_plain (l : List Int) {j : Nat} {c : Value} (h : (Old.ints l)[j]? = some c) : plainV c = true := by
  simp [Old.ints] at h
  obtain ⟨a, -, rfl⟩ := h
  rfl
/-- What a call hands back in memory of its own. -/
theorem Sim.owned {M : Mem} {μ : Map} {w w' : World} (h : Sim M μ w) {v : Value} {l : List Int} (ho : Old.OwnI w' w.heap.size v l) (hb : Below w.heap.size w w') (hn : l.length ≤ 1099511627776) :
    ∃ u M' μ', Fresh intR M u M' l ∧ VRel M' μ' u v ∧ Sim M' μ' w' ∧ Step M.length M μ w M' μ' w' := by
  obtain ⟨h1, ⟨rfl, h2⟩ | ⟨g, cap, cur, rfl, h2, h3, h4, h5, h6, h7⟩⟩ := ho
  · obtain ⟨s1, s2⟩ := h.below (b := M.length) hb
    exact ⟨_, M, μ, ⟨none, 0, 0, rfl, by omega, ⟨h2, fun h => by omega⟩, (fun a h => nomatch h), (fun h => by omega), Keeps.refl _⟩, .plain rfl, s1, s2⟩
  · rw [Nat.mul_one] at h6 h7
    have hlen : (Old.ints l).length = l.length := by simp [Old.ints]
    obtain ⟨s1, s2⟩ := h.adopt (b := M.length) (esz := 1) (xs := Old.ints l) hb h2 h3 (by omega) fun j c hj => ⟨intR_plain l hj, by
      have hj' := (List.getElem?_eq_some_iff.1 hj).1
      rw [← h7, List.getElem?_take, if_pos (by omega)] at hj
      simpa using hj⟩
    refine ⟨.slice (some ⟨M.length, 0, none⟩) l.length cap, _, _, ?_, ?_, s1, s2⟩
    · rw [ints_cells]
      exact .new rfl hn
    · refine .sl getElem?_snoc_eq rfl h4 h5 fun r hr => ?_
      injection hr with hr
      subst hr
      exact ⟨.inr (by simp [Addr.add]), fun _ => by simp [h6]⟩
/-- A slice of numbers in an abstract state reads as a list in the world. -/
theorem rd_of {M : Mem} {μ : Map} {w : World} {A : Option Addr} {n c : Nat} {l : List Int} {u : Value} (hS : Sim M μ w) (hv : VRel M μ (.slice A n c) u) (h : Sl intR M A n l) : ∃ A' c', u = .slice A' n c' ∧ Old.Rd w 1 A' n c' (Old.ints l) := by
  have hl := h.1
  cases hv with
  | plain hp =>
    cases A with
    | none =>
      simp [plainV] at hp
      obtain ⟨rfl, rfl⟩ := hp
      exact ⟨none, 0, rfl, by simp [Old.ints, hl], Nat.le_refl _, Nat.zero_le _, fun h => by omega⟩
    | some a => simp [plainV] at hp
  | @sl id off _ _ c' a s hs hk hn hc ha =>
    refine ⟨some a, c', rfl, by simp [Old.ints, hl], hn, hc, fun h0 => ?_⟩
    obtain ⟨id', off', e, he, hcl⟩ := h.2 h0
    injection e with e
    injection e with e1 e2 e3
    subst e1; subst e2
    unfold rowEsz at he
    rw [hs] at he
    cases s with
    | live r =>
      obtain ⟨h1, -⟩ := ha r rfl
      have ea : a = (μ.at_ id).add off := h1.resolve_left (by omega)
      obtain ⟨a1, a2, a3⟩ := hS.row id r hs
      refine ⟨a, rfl, by rw [ea, block_add_]; exact a1, fun j x hx => ?_⟩
      rw [ints_cells] at hx
      have := hcl j x hx
      unfold cellAt at this
      rw [hs] at this
      obtain ⟨d, h2, h3⟩ := a2 _ _ this
      have hpl : plainV x = true := intR_plain l (by rw [ints_cells]; exact hx)
      have hd : d = x := by
        cases h3 with
        | plain _ => rfl
        | ptr _ _ _ => simp [plainV] at hpl
        | sl _ _ _ _ _ => simp [plainV] at hpl
        | agg _ _ => simp [plainV] at hpl
        | tup _ _ => simp [plainV] at hpl
        | fn _ _ _ _ => simp [plainV] at hpl
      subst hd
      rw [ea, Old.add_add']
      exact h2
    | dead => simp at he
    | hole => simp at he
theorem lrel_nil {M : Mem} {μ : Map} {cs : List Value} (h : LRel M μ [] cs) : cs = [] := List.length_eq_zero_iff.1 h.1.symm
theorem lrel_cons {M : Mem} {μ : Map} {x : Value} {xs cs : List Value} (h : LRel M μ (x :: xs) cs) : ∃ y ys, cs = y :: ys ∧ VRel M μ x y ∧ LRel M μ xs ys := by
  cases cs with
  | nil => have := h.1; simp at this
  | cons y ys =>
    refine ⟨y, ys, rfl, h.2 0 x y rfl rfl, by simpa using h.1, fun i a b ha hb => h.2 (i + 1) a b (by simpa using ha) (by simpa using hb)⟩
theorem vrel_int {M : Mem} {μ : Map} {k : IntKind} {n : Int} {u : Value} (h : VRel M μ (.int k n) u) : u = .int k n := by
  cases h with
  | plain _ => rfl
/-- A function is there. -/
def FnOk (f : FuncId) : Prop := ∃ fn, Try.prog.funcs[f]? = some fn ∧ (fn.name == "runtime.NumGoroutine") = false ∧ fn.body.isNone = false
theorem ctr_res {f : FuncId} {args : List Value} {l : List Int} {c : Int} {M : Mem} (hf : FnOk f) (hn : l.length ≤ 1099511627776) (h : ∀ μ w cs, LRel M μ args cs → Sim M μ w → Calls Try.prog f cs.toArray w (Old.ResI l c w)) :
    Ctr Try.prog M.length f args M fun r M' => ∃ v0, r = .tuple #[v0, iv c] ∧ Fresh intR M v0 M' l :=
  ⟨hf, fun μ w cs hl hS => (h μ w cs hl hS).mono fun e w' ⟨v, he, ho, hb⟩ => by
    subst he
    obtain ⟨u, M', μ', h1, h2, h3, h4⟩ := hS.owned ho hb hn
    refine ⟨.tuple #[u, iv c], M', _, μ', ⟨u, rfl, h1⟩, rfl, .tup rfl fun i x y hx hy => ?_, h3, h4⟩
    rcases i with _ | _ | i
    · simp at hx hy; subst hx; subst hy; exact h2
    · simp at hx hy; subst hx; subst hy; exact .plain rfl
    · simp at hx⟩
theorem ctr_ret {f : FuncId} {args : List Value} {l : List Int} {M : Mem} (hf : FnOk f) (hn : l.length ≤ 1099511627776) (h : ∀ μ w cs, LRel M μ args cs → Sim M μ w → Calls Try.prog f cs.toArray w (Old.RetI l w)) :
    Ctr Try.prog M.length f args M fun r M' => Fresh intR M r M' l :=
  ⟨hf, fun μ w cs hl hS => (h μ w cs hl hS).mono fun e w' ⟨v, he, ho, hb⟩ => by
    subst he
    obtain ⟨u, M', μ', h1, h2, h3, h4⟩ := hS.owned ho hb hn
    exact ⟨u, M', _, μ', h1, rfl, h2, h3, h4⟩⟩
theorem det_val {f : FuncId} {args : List Value} {v : Value} {M : Mem} (hf : FnOk f) (hp : plainV v = true) (h : ∀ μ w cs, LRel M μ args cs → Sim M μ w → Calls Try.prog f cs.toArray w fun e w' => e = .returned v ∧ ∃ k, w' = w.drewN k) :
    Det Try.prog M.length f args M v M :=
  ⟨hf, fun μ w cs hl hS => (h μ w cs hl hS).mono fun e w' ⟨he, k, hk⟩ => by
    subst hk
    obtain ⟨h1, h2⟩ := hS.below (b := M.length) (Old.below_drewN (Below.refl w.heap.size w) k)
    exact ⟨v, μ, he, .plain hp, h1, h2⟩⟩
theorem det_val0 {f : FuncId} {args : List Value} {v : Value} {M : Mem} (hf : FnOk f) (hp : plainV v = true) (h : ∀ μ w cs, LRel M μ args cs → Sim M μ w → Calls Try.prog f cs.toArray w fun e w' => e = .returned v ∧ w = w') :
    Det Try.prog M.length f args M v M :=
  ⟨hf, fun μ w cs hl hS => (h μ w cs hl hS).mono fun e w' ⟨he, hk⟩ => by
    subst hk
    exact ⟨v, μ, he, .plain hp, hS, .refl⟩⟩
end Go.Proofs.Ythopcmglcnlcfaa
