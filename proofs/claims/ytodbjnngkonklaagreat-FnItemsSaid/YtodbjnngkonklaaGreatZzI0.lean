/- Parts of the proof, together: The table that the program's text of numbers reads: which block holds it, if the program has it. Abstract memory and values for walks: what an abstract state says of a world, and how it is kept. Memory steps of abstract states: new blocks, stores, appends. Operations over abstract states: what each computes, and that the model's operation does just that. No conditions. -/
import Derived.WalkKit
import Derived.Deep.Draws
import Derived.Deep.AppendSrc

namespace Go.Proofs.YtodbjnngkonklaaGreat
def gOn : Bool := false
def gB : Nat := 0
def GOk (_ : Option Obj) : Prop := True
theorem gok_not_map (h : gOn = true) (m : Array MapEntry) (c : Nat) : ¬ GOk (some (.map m c)) := by cases h
end Go.Proofs.YtodbjnngkonklaaGreat

namespace Go.Proofs.YtodbjnngkonklaaGreat
open Go.RowKit
set_option linter.unusedVariables false
set_option linter.unusedSimpArgs false

structure Row where
  cells : List Value
  own : Bool
  tight : Bool
  elem : TypeId
  esz : Nat
inductive Slot where
  | live (r : Row)
  | dead
  | hole
  | mp (r : Nat) (es : List (Value × Value))
abbrev Mem := List Slot
structure Map where
  at_ : Nat → Addr
  room : Nat → Nat
def Slot.known : Slot → Bool
  | .hole => false
  | _ => true
@[simp] theorem Slot.known_live (r : Row) : (Slot.live r).known = true := (rfl)
@[simp] theorem Slot.known_dead : Slot.dead.known = true := (rfl)
@[simp] theorem Slot.known_mp (r : Nat) (es : List (Value × Value)) : (Slot.mp r es).known = true := (rfl)
@[simp] theorem Slot.known_hole : Slot.hole.known = false := (rfl)

/-- Values without addresses, of one cell. -/
def plainV : Value → Bool
  | .bool _ => true
  | .int _ _ => true
  | .string _ => true
  | .pointer none => true
  | .slice none n c => n == 0 && c == 0
  | .map _ => true
  | .nilFunc => true
  | .nilIface => true
  | _ => false

inductive VRel (M : Mem) (μ : Map) : Value → Value → Prop
  | plain {v : Value} : plainV v = true → VRel M μ v v
  | ptr {id off : Nat} {a : Addr} {s : Slot} : M[id]? = some s → s.known = true → (∀ r, s = .live r → a = (μ.at_ id).add off) → VRel M μ (.pointer (some ⟨id, off, none⟩)) (.pointer (some a))
  | sl {id off n m c : Nat} {a : Addr} {s : Slot} : M[id]? = some s → s.known = true → n ≤ c → c ≤ maxLen →
      (∀ r, s = .live r → ((c = 0 ∧ off ≠ 0) ∨ a = (μ.at_ id).add off) ∧ (r.own = true → off + c * r.esz = μ.room id)) → VRel M μ (.slice (some ⟨id, off, none⟩) n m) (.slice (some a) n c)
  | agg {xs ys : Array Value} : xs.size = ys.size → (∀ (i : Nat) x y, xs[i]? = some x → ys[i]? = some y → VRel M μ x y) → VRel M μ (.agg xs) (.agg ys)
  | tup {xs ys : Array Value} : xs.size = ys.size → (∀ (i : Nat) x y, xs[i]? = some x → ys[i]? = some y → VRel M μ x y) → VRel M μ (.tuple xs) (.tuple ys)
  | fn {f : Fn} {xs ys us vs : Array Value} : xs.size = ys.size → (∀ (i : Nat) x y, xs[i]? = some x → ys[i]? = some y → VRel M μ x y) →
      us.size = vs.size → (∀ (i : Nat) x y, us[i]? = some x → vs[i]? = some y → VRel M μ x y) → VRel M μ (.func f xs us) (.func f ys vs)

/-- Lists of values, one by one. -/
def LRel (M : Mem) (μ : Map) (xs ys : List Value) : Prop := xs.length = ys.length ∧ ∀ (i : Nat) x y, xs[i]? = some x → ys[i]? = some y → VRel M μ x y
theorem LRel.nil {M : Mem} {μ : Map} : LRel M μ [] [] := ⟨rfl, fun i x y h => by simp at h⟩
theorem LRel.cons {M : Mem} {μ : Map} {x y : Value} {xs ys : List Value} (h : VRel M μ x y) (h' : LRel M μ xs ys) : LRel M μ (x :: xs) (y :: ys) := by
  refine ⟨by simp [h'.1], fun i u v hu hv => ?_⟩
  cases i with
  | zero => simp at hu hv; subst hu; subst hv; exact h
  | succ i => exact h'.2 i u v (by simpa using hu) (by simpa using hv)
theorem LRel.at_ {M : Mem} {μ : Map} {xs ys : List Value} (h : LRel M μ xs ys) {i : Nat} {x : Value} (hx : xs[i]? = some x) : ∃ y, ys[i]? = some y ∧ VRel M μ x y := by
  have hl := (List.getElem?_eq_some_iff.1 hx).1
  have hy : ys[i]? = some (ys[i]'(by have := h.1; omega)) := List.getElem?_eq_getElem _
  exact ⟨_, hy, h.2 i _ _ hx hy⟩
theorem LRel.append {M : Mem} {μ : Map} {xs ys us vs : List Value} (h : LRel M μ xs ys) (h' : LRel M μ us vs) : LRel M μ (xs ++ us) (ys ++ vs) := by
  refine ⟨by simp [h.1, h'.1], fun i u v hu hv => ?_⟩
  have e := h.1
  by_cases hi : i < xs.length
  · rw [List.getElem?_append_left hi] at hu
    rw [List.getElem?_append_left (by omega)] at hv
    exact h.2 i u v hu hv
  · rw [List.getElem?_append_right (by omega)] at hu
    rw [List.getElem?_append_right (by omega), ← e] at hv
    exact h'.2 _ u v hu hv
theorem LRel.drop {M : Mem} {μ : Map} {xs ys : List Value} (h : LRel M μ xs ys) (n : Nat) : LRel M μ (xs.drop n) (ys.drop n) :=
  ⟨by simp [h.1], fun i u v hu hv => h.2 (n + i) u v (by simpa using hu) (by simpa using hv)⟩
theorem LRel.take {M : Mem} {μ : Map} {xs ys : List Value} (h : LRel M μ xs ys) (n : Nat) : LRel M μ (xs.take n) (ys.take n) := by
  refine ⟨by simp [h.1], fun i u v hu hv => ?_⟩
  rw [List.getElem?_take] at hu hv
  by_cases hi : i < n
  · rw [if_pos hi] at hu hv; exact h.2 i u v hu hv
  · rw [if_neg hi] at hu; cases hu

/-- What a live row says of the world. -/
structure RowRel (M : Mem) (μ : Map) (w : World) (id : Nat) (r : Row) : Prop where
  lt : (μ.at_ id).block < w.heap.size
  cell : ∀ (j : Nat) c, r.cells[j]? = some c → ∃ d, w.cell? ((μ.at_ id).add j) = some d ∧ VRel M μ c d
  own : r.own = true → ∃ (b : Nat) (cur : Array Value) (fr : Nat × Nat), μ.at_ id = ⟨b, 0, none⟩ ∧ w.heap[b]? = some (.cells cur r.elem fr) ∧ (∀ j, (j < cur.size ∨ (r.esz ≠ 1 ∧ j = cur.size)) → ¬ (fr.1 ≤ j ∧ j < fr.2)) ∧ cur.size = μ.room id ∧ r.cells.length ≤ cur.size ∧ (r.tight = true → r.cells.length = cur.size)
/-- The listed table is there, and no row of one's own lies over it. -/
def GlobR (M : Mem) (μ : Map) (w : World) : Prop := gOn = true → GOk w.heap[gB]? ∧ gB < w.heap.size ∧ ∀ (id : Nat) r, M[id]? = some (.live r) → r.own = true → (μ.at_ id).block ≠ gB
/-- The maps that are told: each lies in a block of its own, and these are its entries. -/
def MapsR (M : Mem) (w : World) : Prop := (∀ (id r : Nat) es, M[id]? = some (.mp r es) → ∃ (m : Array MapEntry) (c : Nat), w.heap[r]? = some (.map m c) ∧ m.toList.map (fun e => (e.key, e.val)) = es) ∧
  ∀ (i j r : Nat) es es', M[i]? = some (.mp r es) → M[j]? = some (.mp r es') → i = j
structure Sim (M : Mem) (μ : Map) (w : World) : Prop where
  row : ∀ (id : Nat) r, M[id]? = some (.live r) → RowRel M μ w id r
  inj : ∀ (i j : Nat) r s, M[i]? = some (.live r) → M[j]? = some (.live s) → i ≠ j → r.own = true → (μ.at_ i).block ≠ (μ.at_ j).block
  glob : GlobR M μ w
  maps : MapsR M w

/-- How a slot may turn; p: it is write-protected. -/
def Slot.evolves (p : Prop) : Slot → Slot → Prop
  | .hole, .hole => True
  | .dead, .dead => True
  | .live r, .live r' => r'.own = r.own ∧ r'.tight = r.tight ∧ r'.elem = r.elem ∧ r'.esz = r.esz ∧ r'.cells.length = r.cells.length ∧ (p → r' = r)
  | .live _, .dead => ¬ p
  | .mp r es, .mp r' es' => r' = r ∧ (p → es' = es)
  | _, _ => False
theorem Slot.evolves_refl (p : Prop) (s : Slot) : Slot.evolves p s s := by cases s <;> simp [Slot.evolves]
theorem Slot.evolves_trans {p : Prop} {s t u : Slot} (h : Slot.evolves p s t) (h' : Slot.evolves p t u) : Slot.evolves p s u := by
  cases s <;> cases t <;> cases u <;> simp_all [Slot.evolves]
theorem Slot.evolves_mono {p q : Prop} (hpq : q → p) {s t : Slot} (h : Slot.evolves p s t) : Slot.evolves q s t := by
  cases s <;> cases t <;> simp_all [Slot.evolves]
theorem Slot.evolves_known {p : Prop} {s t : Slot} (h : Slot.evolves p s t) : t.known = s.known := by
  cases s <;> cases t <;> simp_all [Slot.evolves, Slot.known]

/-- From one abstract memory and world to another: ids below b are write-protected. -/
structure Step (b : Nat) (M : Mem) (μ : Map) (w : World) (M' : Mem) (μ' : Map) (w' : World) : Prop where
  slot : ∀ (i : Nat) s, M[i]? = some s → ∃ s', M'[i]? = some s' ∧ Slot.evolves (i < b) s s'
  map : ∀ i, i < M.length → μ'.at_ i = μ.at_ i ∧ μ'.room i = μ.room i
  os : w'.os = w.os
  tape : w'.tape = w.tape
  output : w'.output = w.output
  size : w.heap.size ≤ w'.heap.size
  block : ∀ k, k < w.heap.size → (∀ (i : Nat) r, b ≤ i → M[i]? = some (.live r) → r.own = true → (μ.at_ i).block ≠ k) → (∀ (i r : Nat) es, b ≤ i → M[i]? = some (.mp r es) → r ≠ k) → w'.heap[k]? = w.heap[k]?
  freshM : ∀ (i r : Nat) es, M.length ≤ i → M'[i]? = some (.mp r es) → w.heap.size ≤ r
  fresh : ∀ (i : Nat) r', M.length ≤ i → M'[i]? = some (.live r') → w.heap.size ≤ (μ'.at_ i).block ∨ ∃ j r, b ≤ j ∧ M[j]? = some (.live r) ∧ r.own = true ∧ (μ.at_ j).block = (μ'.at_ i).block

section
variable {b b' : Nat} {M M1 M2 : Mem} {μ μ1 μ2 : Map} {w w1 w2 : World}
theorem Step.refl : Step b M μ w M μ w where
  slot := fun i s h => ⟨s, h, Slot.evolves_refl _ _⟩
  map := fun _ _ => ⟨rfl, rfl⟩
  os := rfl
  tape := rfl
  output := rfl
  size := Nat.le_refl _
  block := fun _ _ _ _ => rfl
  freshM := fun i r es hi h => absurd (List.getElem?_eq_some_iff.1 h).1 (by omega)
  fresh := fun i r' hi h => absurd (List.getElem?_eq_some_iff.1 h).1 (by omega)
theorem Step.length (h : Step b M μ w M1 μ1 w1) : M.length ≤ M1.length := by
  rcases Nat.eq_zero_or_pos M.length with h0 | h0
  · omega
  · obtain ⟨s', hs, -⟩ := h.slot (M.length - 1) (M[M.length - 1]'(by omega)) (List.getElem?_eq_getElem _)
    have := (List.getElem?_eq_some_iff.1 hs).1
    omega
/-- A live row behind a step was live ahead of it, or is new. -/
theorem Step.back (h : Step b M μ w M1 μ1 w1) {i : Nat} {r' : Row} (hi : i < M.length) (h1 : M1[i]? = some (.live r')) : ∃ r, M[i]? = some (.live r) ∧ r'.own = r.own ∧ r'.tight = r.tight ∧ r'.elem = r.elem ∧ r'.esz = r.esz ∧ r'.cells.length = r.cells.length ∧ (i < b → r' = r) := by
  obtain ⟨s', hs, he⟩ := h.slot i _ (List.getElem?_eq_getElem hi)
  rw [h1] at hs
  injection hs with hs
  subst hs
  have : M[i]? = some M[i] := List.getElem?_eq_getElem hi
  cases hm : M[i] with
  | live r => rw [hm] at he this; exact ⟨r, this, he⟩
  | dead => rw [hm] at he; exact he.elim
  | hole => rw [hm] at he; exact he.elim
  | mp r es => rw [hm] at he; exact he.elim
/-- A map that is told behind a step was told ahead of it, or is new. -/
theorem Step.backM (h : Step b M μ w M1 μ1 w1) {i r : Nat} {es : List (Value × Value)} (hi : i < M.length) (h1 : M1[i]? = some (.mp r es)) : ∃ es0, M[i]? = some (.mp r es0) := by
  obtain ⟨s', hs, he⟩ := h.slot i _ (List.getElem?_eq_getElem hi)
  rw [h1] at hs
  injection hs with hs
  subst hs
  have hM : M[i]? = some M[i] := List.getElem?_eq_getElem hi
  cases hm : M[i] with
  | live r => rw [hm] at he; exact he.elim
  | dead => rw [hm] at he; exact he.elim
  | hole => rw [hm] at he; exact he.elim
  | mp r0 es0 => rw [hm] at he hM; obtain ⟨rfl, -⟩ := he; exact ⟨es0, hM⟩
theorem Sim.globStep (hS : Sim M μ w) (h : Step b M μ w M1 μ1 w1) : GlobR M1 μ1 w1 := fun hon => by
  obtain ⟨h1, h2, h3⟩ := hS.glob hon
  refine ⟨?_, Nat.lt_of_lt_of_le h2 h.size, fun i r hi ho => ?_⟩
  · rw [h.block gB h2 (fun i r _ hr ho => h3 i r hr ho) (fun i r es _ hm e => by
      obtain ⟨m, c, hc, -⟩ := hS.maps.1 i r es hm
      rw [e] at hc
      rw [hc] at h1
      exact gok_not_map hon m c h1)]
    exact h1
  · by_cases hlt : i < M.length
    · obtain ⟨r0, h0, e0, -⟩ := h.back hlt hi
      rw [(h.map i hlt).1]
      exact h3 i r0 h0 (by rw [← e0]; exact ho)
    · rcases h.fresh i r (by omega) hi with hf | ⟨j, r0, hj, h0, ho0, he⟩
      · omega
      · rw [← he]; exact h3 j r0 h0 ho0
theorem Sim.mapsKeep (hS : Sim M μ w) (hb : ∀ k, k < w.heap.size → (∀ (i : Nat) r, M[i]? = some (.live r) → r.own = true → (μ.at_ i).block ≠ k) → w1.heap[k]? = w.heap[k]?) (hmp : ∀ (id r : Nat) es, M1[id]? = some (.mp r es) → M[id]? = some (.mp r es)) : MapsR M1 w1 := by
  refine ⟨fun id r es h => ?_, fun i j r es es' h h' => hS.maps.2 i j r es es' (hmp i r es h) (hmp j r es' h')⟩
  obtain ⟨m, c, h1, h2⟩ := hS.maps.1 id r es (hmp id r es h)
  refine ⟨m, c, ?_, h2⟩
  rw [hb r (Array.getElem?_eq_some_iff.1 h1).1 ?_]
  · exact h1
  · intro i r0 hi ho e
    obtain ⟨g, cur, fr, e1, e2, -⟩ := (hS.row i r0 hi).own ho
    rw [e1] at e
    have e' : g = r := e
    rw [e', h1] at e2
    cases e2
theorem Step.trans (h : Step b M μ w M1 μ1 w1) (h' : Step b M1 μ1 w1 M2 μ2 w2) : Step b M μ w M2 μ2 w2 where
  slot := fun i s hs => by
    obtain ⟨s1, h1, e1⟩ := h.slot i s hs
    obtain ⟨s2, h2, e2⟩ := h'.slot i s1 h1
    exact ⟨s2, h2, Slot.evolves_trans e1 e2⟩
  map := fun i hi => ⟨(h'.map i (Nat.lt_of_lt_of_le hi h.length)).1.trans (h.map i hi).1, (h'.map i (Nat.lt_of_lt_of_le hi h.length)).2.trans (h.map i hi).2⟩
  os := h'.os.trans h.os
  tape := h'.tape.trans h.tape
  output := h'.output.trans h.output
  size := Nat.le_trans h.size h'.size
  block := fun k hk hn hm => by
    rw [h'.block k (Nat.lt_of_lt_of_le hk h.size) ?_ ?_, h.block k hk hn hm]
    · intro i r hb hi ho
      by_cases hlt : i < M.length
      · obtain ⟨r0, h0, e0, -⟩ := h.back hlt hi
        rw [(h.map i hlt).1]
        exact hn i r0 hb h0 (by rw [← e0]; exact ho)
      · rcases h.fresh i r (by omega) hi with hf | ⟨j, r0, hj, h0, ho0, he⟩
        · omega
        · rw [← he]; exact hn j r0 hj h0 ho0
    · intro i r es hb hi
      by_cases hlt : i < M.length
      · obtain ⟨es0, h0⟩ := h.backM hlt hi
        exact hm i r es0 hb h0
      · have := h.freshM i r es (by omega) hi
        omega
  freshM := fun i r es hi h2 => by
    by_cases hlt : i < M1.length
    · obtain ⟨es1, h1⟩ := h'.backM hlt h2
      exact h.freshM i r es1 hi h1
    · exact Nat.le_trans h.size (h'.freshM i r es (by omega) h2)
  fresh := fun i r' hi h2 => by
    by_cases hlt : i < M1.length
    · obtain ⟨r1, h1, e1, -⟩ := h'.back hlt h2
      rw [(h'.map i hlt).1]
      exact h.fresh i r1 hi h1
    · rcases h'.fresh i r' (by omega) h2 with hf | ⟨j, r1, hj, h1, ho1, he⟩
      · exact .inl (Nat.le_trans h.size hf)
      · rw [← he]
        by_cases hjl : j < M.length
        · obtain ⟨r0, h0, e0, -⟩ := h.back hjl h1
          rw [(h.map j hjl).1]
          exact .inr ⟨j, r0, hj, h0, by rw [← e0]; exact ho1, rfl⟩
        · exact h.fresh j r1 (by omega) h1
theorem Step.weaken (h : Step b M μ w M1 μ1 w1) (hb : b' ≤ b) : Step b' M μ w M1 μ1 w1 where
  slot := fun i s hs => by
    obtain ⟨s1, h1, e1⟩ := h.slot i s hs
    exact ⟨s1, h1, Slot.evolves_mono (by omega) e1⟩
  map := h.map
  os := h.os
  tape := h.tape
  output := h.output
  size := h.size
  block := fun k hk hn hm => h.block k hk (fun i r hi => hn i r (by omega)) (fun i r es hi => hm i r es (by omega))
  freshM := h.freshM
  fresh := fun i r' hi h1 => by
    rcases h.fresh i r' hi h1 with hf | ⟨j, r, hj, h0, ho0, he⟩
    · exact .inl hf
    · exact .inr ⟨j, r, by omega, h0, ho0, he⟩
theorem VRel.step {v c : Value} (hv : VRel M μ v c) (h : Step b M μ w M1 μ1 w1) : VRel M1 μ1 v c := by
  induction hv with
  | plain hp => exact .plain hp
  | @ptr id off a s hs hk ha =>
    obtain ⟨s1, h1, e1⟩ := h.slot _ _ hs
    have hlt := (List.getElem?_eq_some_iff.1 hs).1
    refine .ptr h1 ((Slot.evolves_known e1).trans hk) fun r hr => ?_
    subst hr
    obtain ⟨r0, h0, -⟩ := h.back hlt h1
    rw [(h.map _ hlt).1]
    rw [hs] at h0
    injection h0 with h0
    exact ha r0 h0
  | @sl id off n m c a s hs hk hn hc ha =>
    obtain ⟨s1, h1, e1⟩ := h.slot _ _ hs
    have hlt := (List.getElem?_eq_some_iff.1 hs).1
    refine .sl h1 ((Slot.evolves_known e1).trans hk) hn hc fun r hr => ?_
    subst hr
    obtain ⟨r0, h0, eo, -, -, es, -⟩ := h.back hlt h1
    rw [(h.map _ hlt).1, (h.map _ hlt).2]
    rw [hs] at h0
    injection h0 with h0
    obtain ⟨h2, h3⟩ := ha r0 h0
    exact ⟨h2, fun ho => by rw [es]; exact h3 (by rw [← eo]; exact ho)⟩
  | agg hsz _ ih => exact .agg hsz ih
  | tup hsz _ ih => exact .tup hsz ih
  | fn hsz _ hsz' _ ih ih' => exact .fn hsz ih hsz' ih'
theorem LRel.step {xs ys : List Value} (hv : LRel M μ xs ys) (h : Step b M μ w M1 μ1 w1) : LRel M1 μ1 xs ys := ⟨hv.1, fun i x y hx hy => (hv.2 i x y hx hy).step h⟩
end

section
variable {M : Mem} {μ : Map} {v c : Value}
theorem VRel.bool {t : Bool} (h : VRel M μ (.bool t) c) : c = .bool t := by cases h; rfl
theorem VRel.int {k : IntKind} {n : Int} (h : VRel M μ (.int k n) c) : c = .int k n := by cases h; rfl
theorem VRel.string {s : ByteArray} (h : VRel M μ (.string s) c) : c = .string s := by cases h; rfl
theorem VRel.of_plain (hp : plainV v = true) (h : VRel M μ v c) : c = v := by
  cases h with
  | plain _ => rfl
  | _ => simp [plainV] at hp
theorem VRel.ptr_inv {id off : Nat} {sp : Option Nat} (h : VRel M μ (.pointer (some ⟨id, off, sp⟩)) c) :
    sp = none ∧ ∃ a s, c = .pointer (some a) ∧ M[id]? = some s ∧ s.known = true ∧ ∀ r, s = .live r → a = (μ.at_ id).add off := by
  cases h with
  | plain hp => simp [plainV] at hp
  | ptr h1 h2 h3 => exact ⟨rfl, _, _, rfl, h1, h2, h3⟩
theorem VRel.sl_inv {id off n m : Nat} {sp : Option Nat} (h : VRel M μ (.slice (some ⟨id, off, sp⟩) n m) c) :
    sp = none ∧ ∃ a cp s, c = .slice (some a) n cp ∧ M[id]? = some s ∧ s.known = true ∧ n ≤ cp ∧ cp ≤ maxLen ∧ ∀ r, s = .live r → ((cp = 0 ∧ off ≠ 0) ∨ a = (μ.at_ id).add off) ∧ (r.own = true → off + cp * r.esz = μ.room id) := by
  cases h with
  | plain hp => simp [plainV] at hp
  | sl h1 h2 h3 h4 h5 => exact ⟨rfl, _, _, _, rfl, h1, h2, h3, h4, h5⟩
theorem VRel.agg_inv {xs : Array Value} (h : VRel M μ (.agg xs) c) : ∃ ys : Array Value, c = .agg ys ∧ LRel M μ xs.toList ys.toList := by
  cases h with
  | plain hp => simp [plainV] at hp
  | agg h1 h2 => exact ⟨_, rfl, by simpa using h1, fun i x y hx hy => h2 i x y (by simpa using hx) (by simpa using hy)⟩
theorem VRel.tup_inv {xs : Array Value} (h : VRel M μ (.tuple xs) c) : ∃ ys : Array Value, c = .tuple ys ∧ LRel M μ xs.toList ys.toList := by
  cases h with
  | plain hp => simp [plainV] at hp
  | tup h1 h2 => exact ⟨_, rfl, by simpa using h1, fun i x y hx hy => h2 i x y (by simpa using hx) (by simpa using hy)⟩
theorem VRel.mk_agg {xs ys : List Value} (h : LRel M μ xs ys) : VRel M μ (.agg xs.toArray) (.agg ys.toArray) :=
  .agg (by simp [h.1]) fun i x y hx hy => h.2 i x y (by simpa using hx) (by simpa using hy)
theorem VRel.mk_tup {xs ys : List Value} (h : LRel M μ xs ys) : VRel M μ (.tuple xs.toArray) (.tuple ys.toArray) :=
  .tup (by simp [h.1]) fun i x y hx hy => h.2 i x y (by simpa using hx) (by simpa using hy)
theorem VRel.cells (h : VRel M μ v c) : LRel M μ v.cells.toList c.cells.toList := by
  have one : ∀ {x y : Value}, VRel M μ x y → LRel M μ [x] [y] := fun hx => .cons hx .nil
  cases h with
  | plain hp => cases v <;> first | exact one (.plain hp) | simp [plainV] at hp
  | ptr h1 h2 h3 => exact one (.ptr h1 h2 h3)
  | sl h1 h2 h3 h4 h5 => exact one (.sl h1 h2 h3 h4 h5)
  | agg h1 h2 => exact ⟨by simpa [Value.cells] using h1, fun i x y hx hy => h2 i x y (by simpa [Value.cells] using hx) (by simpa [Value.cells] using hy)⟩
  | tup h1 h2 => exact one (.tup h1 h2)
  | fn h1 h2 h3 h4 => exact one (.fn h1 h2 h3 h4)
end

theorem add_add_ (a : Addr) (i j : Nat) : (a.add i).add j = a.add (i + j) := by
  unfold Addr.add
  by_cases hi : i = 0 <;> by_cases hj : j = 0 <;> simp [hi, hj, Nat.add_assoc]
theorem block_add_ (a : Addr) (n : Nat) : (a.add n).block = a.block := by unfold Addr.add; split <;> rfl
end Go.Proofs.YtodbjnngkonklaaGreat

namespace Go.Proofs.YtodbjnngkonklaaGreat
open Go.RowKit
set_option linter.unusedVariables false
set_option linter.unusedSimpArgs false

theorem getElem?_snoc_lt {α : Type} {l : List α} {x : α} {i : Nat} (h : i < l.length) : (l ++ [x])[i]? = l[i]? := List.getElem?_append_left h
theorem getElem?_snoc_eq {α : Type} {l : List α} {x : α} : (l ++ [x])[l.length]? = some x := by simp
theorem getElem?_snoc_inv {α : Type} {l : List α} {x y : α} {i : Nat} (h : (l ++ [x])[i]? = some y) : (i < l.length ∧ l[i]? = some y) ∨ (i = l.length ∧ y = x) := by
  rcases Nat.lt_trichotomy i l.length with hi | hi | hi
  · exact .inl ⟨hi, by rwa [List.getElem?_append_left hi] at h⟩
  · subst hi; right; simp at h; exact ⟨rfl, h.symm⟩
  · rw [List.getElem?_eq_none (by simp; omega)] at h; cases h

def Map.set (μ : Map) (id : Nat) (a : Addr) (n : Nat) : Map := ⟨fun i => if i = id then a else μ.at_ i, fun i => if i = id then n else μ.room i⟩
@[simp] theorem Map.set_at (μ : Map) (id : Nat) (a : Addr) (n : Nat) : (μ.set id a n).at_ id = a := by simp [Map.set]
@[simp] theorem Map.set_room (μ : Map) (id : Nat) (a : Addr) (n : Nat) : (μ.set id a n).room id = n := by simp [Map.set]
theorem Map.set_at_ne {μ : Map} {id i : Nat} {a : Addr} {n : Nat} (h : i ≠ id) : (μ.set id a n).at_ i = μ.at_ i := by simp [Map.set, h]
theorem Map.set_room_ne {μ : Map} {id i : Nat} {a : Addr} {n : Nat} (h : i ≠ id) : (μ.set id a n).room i = μ.room i := by simp [Map.set, h]

section
variable {b : Nat} {M M' : Mem} {μ μ' : Map} {w w' : World}
/-- What an abstract value says depends on the known slots alone. -/
theorem VRel.same {v c : Value} (hv : VRel M μ v c) (h : ∀ i s, M[i]? = some s → s.known = true → M'[i]? = some s ∧ μ'.at_ i = μ.at_ i ∧ μ'.room i = μ.room i) : VRel M' μ' v c := by
  induction hv with
  | plain hp => exact .plain hp
  | ptr hs hk ha =>
    obtain ⟨h1, h2, h3⟩ := h _ _ hs hk
    exact .ptr h1 hk fun r hr => by rw [h2]; exact ha r hr
  | sl hs hk hn hc ha =>
    obtain ⟨h1, h2, h3⟩ := h _ _ hs hk
    exact .sl h1 hk hn hc fun r hr => by rw [h2, h3]; exact ha r hr
  | agg hsz _ ih => exact .agg hsz ih
  | tup hsz _ ih => exact .tup hsz ih
  | fn hsz _ hsz' _ ih ih' => exact .fn hsz ih hsz' ih'

/-- The heap alone counts. -/
theorem Sim.heap (h : Sim M μ w) (e : w'.heap = w.heap) : Sim M μ w' where
  row := fun id r hr => by
    obtain ⟨h1, h2, h3⟩ := h.row id r hr
    exact ⟨by rw [e]; exact h1, fun j c hc => by simpa [World.cell?, e] using h2 j c hc, by rw [e]; exact h3⟩
  inj := h.inj
  glob := fun hon => by rw [e]; exact h.glob hon
  maps := h.mapsKeep (fun k _ _ => by rw [e]) (fun _ _ _ h => h)
theorem Step.heap (e : w'.heap = w.heap) (h1 : w'.os = w.os) (h2 : w'.tape = w.tape) (h3 : w'.output = w.output) : Step b M μ w M μ w' where
  slot := fun i s h => ⟨s, h, Slot.evolves_refl _ _⟩
  map := fun _ _ => ⟨rfl, rfl⟩
  os := h1
  tape := h2
  output := h3
  size := by rw [e]; exact Nat.le_refl _
  block := fun k _ _ _ => by rw [e]
  freshM := fun i r es hi h => absurd (List.getElem?_eq_some_iff.1 h).1 (by omega)
  fresh := fun i r' hi h => absurd (List.getElem?_eq_some_iff.1 h).1 (by omega)

/-- A new block. -/
theorem Sim.allocF (h : Sim M μ w) {xs : List Value} {cur : Array Value} {elem : TypeId} {esz : Nat} {tight : Bool} {fr : Nat × Nat} (hfr : ∀ j, (j < cur.size ∨ (esz ≠ 1 ∧ j = cur.size)) → ¬ (fr.1 ≤ j ∧ j < fr.2)) (hl : xs.length ≤ cur.size) (ht : tight = true → xs.length = cur.size)
    (hx : ∀ (j : Nat) c, xs[j]? = some c → ∃ d, cur[j]? = some d ∧ VRel M μ c d) :
    Sim (M ++ [.live ⟨xs, true, tight, elem, esz⟩]) (μ.set M.length ⟨w.heap.size, 0, none⟩ cur.size) (w.alloc (.cells cur elem fr)) ∧
    Step b M μ w (M ++ [.live ⟨xs, true, tight, elem, esz⟩]) (μ.set M.length ⟨w.heap.size, 0, none⟩ cur.size) (w.alloc (.cells cur elem fr)) := by
  have hst : Step b M μ w (M ++ [.live ⟨xs, true, tight, elem, esz⟩]) (μ.set M.length ⟨w.heap.size, 0, none⟩ cur.size) (w.alloc (.cells cur elem fr)) := by
    refine ⟨fun i s hs => ⟨s, ?_, Slot.evolves_refl _ _⟩, fun i hi => ⟨Map.set_at_ne (by omega), Map.set_room_ne (by omega)⟩, rfl, rfl, rfl, by simp, fun k hk _ _ => Below.heap_alloc _ _ _ hk, fun i r es hi hr => ?_, fun i r' hi hr => .inl ?_⟩
    · rw [getElem?_snoc_lt (List.getElem?_eq_some_iff.1 hs).1]; exact hs
    · rcases getElem?_snoc_inv hr with ⟨h1, _⟩ | ⟨_, h1⟩
      · omega
      · cases h1
    · rcases getElem?_snoc_inv hr with ⟨h1, _⟩ | ⟨rfl, _⟩
      · omega
      · simp
  have hnew : (w.alloc (.cells cur elem fr)).heap[w.heap.size]? = some (.cells cur elem fr) := heap_alloc_new w _
  refine ⟨⟨fun id r hr => ?_, fun i j r s hi hj hne ho => ?_, h.globStep hst, h.mapsKeep (fun k hk _ => Below.heap_alloc _ _ _ hk) (fun id r es hr => by
    rcases getElem?_snoc_inv hr with ⟨_, h1⟩ | ⟨_, h1⟩
    · exact h1
    · cases h1)⟩, hst⟩
  · rcases getElem?_snoc_inv hr with ⟨hlt, h1⟩ | ⟨rfl, h1⟩
    · obtain ⟨a1, a2, a3⟩ := h.row id r h1
      rw [(show (μ.set M.length ⟨w.heap.size, 0, none⟩ cur.size).at_ id = μ.at_ id from Map.set_at_ne (by omega)).symm] at a1 a2 a3
      refine ⟨by simp; omega, fun j c hc => ?_, fun ho => ?_⟩
      · obtain ⟨d, h2, h3⟩ := a2 j c hc
        exact ⟨d, by rw [World.cell?_alloc_lt _ _ _ (by rw [block_add_]; exact a1)]; exact h2, h3.step hst⟩
      · obtain ⟨b0, cur0, fr0, h2, h3, hf0, h4, h5⟩ := a3 ho
        refine ⟨b0, cur0, fr0, h2, ?_, hf0, ?_, h5⟩
        · rw [Below.heap_alloc _ _ _ (by rw [h2] at a1; exact a1)]; exact h3
        · rw [Map.set_room_ne (by omega)]; exact h4
    · injection h1 with h1
      subst h1
      refine ⟨by simp, fun j c hc => ?_, fun _ => ⟨w.heap.size, cur, fr, by simp, hnew, hfr, by simp, hl, ht⟩⟩
      obtain ⟨d, h2, h3⟩ := hx j c hc
      refine ⟨d, ?_, h3.step hst⟩
      rw [Map.set_at, Addr.add_lit]
      simp only [Nat.zero_add]
      rw [cell_of_row _ w.heap.size j cur elem fr hnew]
      exact h2
  · rcases getElem?_snoc_inv hi with ⟨hil, h1⟩ | ⟨rfl, h1⟩ <;> rcases getElem?_snoc_inv hj with ⟨hjl, h2⟩ | ⟨rfl, h2⟩
    · rw [Map.set_at_ne (by omega), Map.set_at_ne (by omega)]
      exact h.inj i j r s h1 h2 hne ho
    · rw [Map.set_at_ne (by omega), Map.set_at]
      have := (h.row i r h1).lt
      simp; omega
    · rw [Map.set_at, Map.set_at_ne (by omega)]
      have := (h.row j s h2).lt
      simp; omega
    · omega

theorem Sim.alloc (h : Sim M μ w) {xs : List Value} {cur : Array Value} {elem : TypeId} {esz : Nat} {tight : Bool} (hl : xs.length ≤ cur.size) (ht : tight = true → xs.length = cur.size)
    (hx : ∀ (j : Nat) c, xs[j]? = some c → ∃ d, cur[j]? = some d ∧ VRel M μ c d) :
    Sim (M ++ [.live ⟨xs, true, tight, elem, esz⟩]) (μ.set M.length ⟨w.heap.size, 0, none⟩ cur.size) (w.alloc (.cells cur elem)) ∧
    Step b M μ w (M ++ [.live ⟨xs, true, tight, elem, esz⟩]) (μ.set M.length ⟨w.heap.size, 0, none⟩ cur.size) (w.alloc (.cells cur elem)) :=
  h.allocF (fr := (0, 0)) (fun j _ => by simp) hl ht hx

theorem getElem?_set_inv {α : Type} {l : List α} {x y : α} {i j : Nat} (h : (l.set i x)[j]? = some y) : (j = i ∧ y = x ∧ i < l.length) ∨ (j ≠ i ∧ l[j]? = some y) := by
  rw [List.getElem?_set] at h
  by_cases e : i = j
  · rw [if_pos e] at h
    split at h
    · injection h with h; exact .inl ⟨e.symm, h.symm, by omega⟩
    · cases h
  · rw [if_neg e] at h; exact .inr ⟨fun h' => e h'.symm, h⟩

/-- One cell is stored. -/
theorem Sim.store (h : Sim M μ w) {id j : Nat} {r : Row} {v c : Value} (hr : M[id]? = some (.live r)) (ho : r.own = true) (hb : b ≤ id) (hj : j < r.cells.length) (hv : VRel M μ v c) :
    Sim (M.set id (.live { r with cells := r.cells.set j v })) μ (w.setCell ((μ.at_ id).add j) c) ∧
    Step b M μ w (M.set id (.live { r with cells := r.cells.set j v })) μ (w.setCell ((μ.at_ id).add j) c) ∧ (∃ d, w.cell? ((μ.at_ id).add j) = some d) ∧ w.frozen? ((μ.at_ id).add j) = false := by
  obtain ⟨a1, a2, a3⟩ := h.row id r hr
  obtain ⟨g, cur, fr, e1, e2, ef, e3, e4, e5⟩ := a3 ho
  have hid := (List.getElem?_eq_some_iff.1 hr).1
  have hst : Step b M μ w (M.set id (.live { r with cells := r.cells.set j v })) μ (w.setCell ((μ.at_ id).add j) c) := by
    refine ⟨fun i s hs => ?_, fun _ _ => ⟨rfl, rfl⟩, rfl, rfl, rfl, by simp [World.setCell], fun k hk hn _ => ?_, fun i r1 es hi hr' => ?_, fun i r' hi hr' => ?_⟩
    · by_cases e : i = id
      · subst e
        rw [hr] at hs
        injection hs with hs
        subst hs
        exact ⟨_, List.getElem?_set_self hid, rfl, rfl, rfl, rfl, by simp, fun h => by omega⟩
      · exact ⟨s, by rw [List.getElem?_set_ne (fun h => e h.symm)]; exact hs, Slot.evolves_refl _ _⟩
    · refine Below.heap_setCell _ _ _ _ ?_
      rw [block_add_]
      exact fun e => hn id r hb hr ho e.symm
    · have := (List.getElem?_eq_some_iff.1 hr').1
      rw [List.length_set] at this
      omega
    · have := (List.getElem?_eq_some_iff.1 hr').1
      rw [List.length_set] at this
      omega
  refine ⟨⟨fun i s hs => ?_, fun i i' r1 r2 h1 h2 hne ho1 => ?_, h.globStep hst, h.mapsKeep (fun k hk hn => Below.heap_setCell _ _ _ _ (by rw [block_add_]; exact fun e => hn id r hr ho e.symm)) (fun i r1 es hs => by
    rcases getElem?_set_inv hs with ⟨_, h1, _⟩ | ⟨_, h1⟩
    · cases h1
    · exact h1)⟩, hst, ?_, ?_⟩
  · rcases getElem?_set_inv hs with ⟨rfl, h1, -⟩ | ⟨hne, h1⟩
    · injection h1 with h1
      subst h1
      refine ⟨by simpa [World.setCell] using a1, fun k x hx => ?_, fun _ => ⟨g, cur.setIfInBounds j c, fr, e1, ?_, by simpa using ef, by simpa using e3, by simpa using e4, by simpa using e5⟩⟩
      · rcases getElem?_set_inv hx with ⟨rfl, rfl, -⟩ | ⟨hkj, h1⟩
        · refine ⟨c, ?_, hv.step hst⟩
          obtain ⟨d, hd, -⟩ := a2 k _ (List.getElem?_eq_getElem hj)
          exact World.cell?_setCell_same w _ c hd
        · obtain ⟨d, hd, hrel⟩ := a2 k x h1
          refine ⟨d, ?_, hrel.step hst⟩
          rw [World.cell?_setCell_other]
          · exact hd
          · intro e
            rw [e1, Addr.add_lit, Addr.add_lit] at e
            exact hkj (by simpa using e.symm)
      · rw [e1, Addr.add_lit]
        simp [World.setCell, Array.getElem?_modify, e2]
    · obtain ⟨b1, b2, b3⟩ := h.row i s h1
      have hblk : (μ.at_ id).block ≠ (μ.at_ i).block := h.inj id i r s hr h1 (fun e => hne e.symm) ho
      refine ⟨by simpa [World.setCell] using b1, fun k x hx => ?_, fun ho' => ?_⟩
      · obtain ⟨d, hd, hrel⟩ := b2 k x hx
        refine ⟨d, ?_, hrel.step hst⟩
        rw [World.cell?_setCell_other]
        · exact hd
        · intro e
          have := congrArg Addr.block e
          rw [block_add_, block_add_] at this
          exact hblk this
      · obtain ⟨g', cur', fr', f1, f2, f3⟩ := b3 ho'
        refine ⟨g', cur', fr', f1, ?_, f3⟩
        rw [Below.heap_setCell]
        · exact f2
        · rw [block_add_]
          rw [f1] at hblk
          exact fun e => hblk e.symm
  · have back : ∀ {i : Nat} {s : Row}, (M.set id (.live { r with cells := r.cells.set j v }))[i]? = some (.live s) → ∃ s0, M[i]? = some (.live s0) ∧ s.own = s0.own := by
      intro i s hs
      rcases getElem?_set_inv hs with ⟨rfl, h1, -⟩ | ⟨_, h1⟩
      · injection h1 with h1; subst h1; exact ⟨r, hr, rfl⟩
      · exact ⟨s, h1, rfl⟩
    obtain ⟨s1, k1, k2⟩ := back h1
    obtain ⟨s2, k3, -⟩ := back h2
    exact h.inj i i' s1 s2 k1 k3 hne (by rw [← k2]; exact ho1)
  · obtain ⟨d, hd, -⟩ := a2 j _ (List.getElem?_eq_getElem hj)
    exact ⟨d, hd⟩
  · rw [e1, Addr.add_lit]
    have := ef j (by omega)
    simp only [World.frozen?, e2]
    simp
    omega

/-- Some cells in a row are stored. -/
def splice (cs : List Value) (off : Nat) : List Value → List Value
  | [] => cs
  | v :: vs => splice (cs.set off v) (off + 1) vs
@[simp] theorem splice_len (vs : List Value) : ∀ (cs : List Value) (off : Nat), (splice cs off vs).length = cs.length := by
  induction vs with
  | nil => exact fun _ _ => rfl
  | cons v vs ih => intro cs off; rw [splice, ih]; simp

/-- A row is grown: its id dies, a new id has what it held and more, in the same block or a new one. -/
theorem Sim.renew (h : Sim M μ w) {id g : Nat} {r : Row} {xs : List Value} {cur : Array Value} (hr : M[id]? = some (.live r)) (ho : r.own = true) (hb : b ≤ id)
    (h1 : w'.os = w.os) (h2 : w'.tape = w.tape) (h3 : w'.output = w.output) (h4 : w.heap.size ≤ w'.heap.size) (h5 : ∀ k, k < w.heap.size → k ≠ (μ.at_ id).block → w'.heap[k]? = w.heap[k]?)
    {fr : Nat × Nat} {esz : Nat} (hg : w'.heap[g]? = some (.cells cur r.elem fr)) (hfr : ∀ j, (j < cur.size ∨ (esz ≠ 1 ∧ j = cur.size)) → ¬ (fr.1 ≤ j ∧ j < fr.2)) (hgw : g = (μ.at_ id).block ∨ w.heap.size ≤ g) (hl : xs.length ≤ cur.size)
    (hx : ∀ (j : Nat) c, xs[j]? = some c → ∃ d, cur[j]? = some d ∧ VRel M μ c d) :
    Sim (M.set id .dead ++ [.live ⟨xs, true, false, r.elem, esz⟩]) (μ.set M.length ⟨g, 0, none⟩ cur.size) w' ∧
    Step b M μ w (M.set id .dead ++ [.live ⟨xs, true, false, r.elem, esz⟩]) (μ.set M.length ⟨g, 0, none⟩ cur.size) w' := by
  have hid := (List.getElem?_eq_some_iff.1 hr).1
  have hlt := (h.row id r hr).lt
  have hlen : (M.set id Slot.dead).length = M.length := by simp
  have inv : ∀ {i : Nat} {s : Row}, (M.set id Slot.dead ++ [Slot.live ⟨xs, true, false, r.elem, esz⟩])[i]? = some (.live s) → (i < M.length ∧ i ≠ id ∧ M[i]? = some (.live s)) ∨ (i = M.length ∧ s = ⟨xs, true, false, r.elem, esz⟩) := by
    intro i s hs
    rcases getElem?_snoc_inv hs with ⟨h6, h7⟩ | ⟨h6, h7⟩
    · rcases getElem?_set_inv h7 with ⟨-, h8, -⟩ | ⟨h8, h9⟩
      · cases h8
      · exact .inl ⟨by omega, h8, h9⟩
    · injection h7 with h7
      exact .inr ⟨by omega, h7⟩
  have invm : ∀ {i r1 : Nat} {es : List (Value × Value)}, (M.set id Slot.dead ++ [Slot.live ⟨xs, true, false, r.elem, esz⟩])[i]? = some (.mp r1 es) → M[i]? = some (.mp r1 es) := by
    intro i r1 es hs
    rcases getElem?_snoc_inv hs with ⟨h6, h7⟩ | ⟨h6, h7⟩
    · rcases getElem?_set_inv h7 with ⟨-, h8, -⟩ | ⟨h8, h9⟩
      · cases h8
      · exact h9
    · cases h7
  have hst : Step b M μ w (M.set id .dead ++ [.live ⟨xs, true, false, r.elem, esz⟩]) (μ.set M.length ⟨g, 0, none⟩ cur.size) w' := by
    refine ⟨fun i s hs => ?_, fun i hi => ⟨Map.set_at_ne (by omega), Map.set_room_ne (by omega)⟩, h1, h2, h3, h4, fun k hk hn _ => h5 k hk fun e => hn id r hb hr ho e.symm, fun i r1 es hi hr' => absurd (List.getElem?_eq_some_iff.1 (invm hr')).1 (by omega), fun i r' hi hr' => ?_⟩
    · have hi := (List.getElem?_eq_some_iff.1 hs).1
      rw [getElem?_snoc_lt (by omega)]
      by_cases e : i = id
      · subst e
        rw [hr] at hs
        injection hs with hs
        subst hs
        exact ⟨.dead, List.getElem?_set_self hid, by simp [Slot.evolves]; omega⟩
      · exact ⟨s, by rw [List.getElem?_set_ne (fun h => e h.symm)]; exact hs, Slot.evolves_refl _ _⟩
    · rcases inv hr' with ⟨h6, -⟩ | ⟨rfl, -⟩
      · omega
      · rw [Map.set_at]
        rcases hgw with e | e
        · exact .inr ⟨id, r, hb, hr, ho, e.symm⟩
        · exact .inl e
  have hgl : g < w'.heap.size := (Array.getElem?_eq_some_iff.1 hg).1
  have far : ∀ {i : Nat} {s : Row}, M[i]? = some (.live s) → i ≠ id → (μ.at_ i).block ≠ (μ.at_ id).block ∧ (μ.at_ i).block ≠ g := by
    intro i s hs hne
    have h6 := h.inj id i r s hr hs (fun e => hne e.symm) ho
    have h7 := (h.row i s hs).lt
    refine ⟨fun e => h6 e.symm, fun e => ?_⟩
    rcases hgw with e' | e'
    · exact h6 (by rw [e, e'])
    · omega
  refine ⟨⟨fun i s hs => ?_, fun i j r1 r2 hi hj hne ho1 => ?_, h.globStep hst, h.mapsKeep (fun k hk hn => h5 k hk fun e => hn id r hr ho e.symm) (fun i r1 es hs => invm hs)⟩, hst⟩
  · rcases inv hs with ⟨h6, h7, h8⟩ | ⟨rfl, rfl⟩
    · obtain ⟨a1, a2, a3⟩ := h.row i s h8
      obtain ⟨f1, f2⟩ := far h8 h7
      rw [(show (μ.set M.length ⟨g, 0, none⟩ cur.size).at_ i = μ.at_ i from Map.set_at_ne (by omega)).symm] at a1 a2 a3 f1
      refine ⟨by omega, fun j c hc => ?_, fun ho' => ?_⟩
      · obtain ⟨d, h9, h10⟩ := a2 j c hc
        refine ⟨d, ?_, h10.step hst⟩
        rw [World.cell?_of_block (w := w) (h5 _ (by rw [block_add_]; exact a1) (by rw [block_add_]; exact f1))]
        exact h9
      · obtain ⟨b0, cur0, fr0, e2, e3, ef, e4, e5⟩ := a3 ho'
        refine ⟨b0, cur0, fr0, e2, ?_, ef, ?_, e5⟩
        · rw [h5 b0 (by rw [e2] at a1; exact a1) (by rw [e2] at f1; exact f1)]; exact e3
        · rw [Map.set_room_ne (by omega)]; exact e4
    · refine ⟨by rw [Map.set_at]; exact hgl, fun j c hc => ?_, fun _ => ⟨g, cur, fr, by simp, hg, hfr, by simp, hl, by simp⟩⟩
      obtain ⟨d, h6, h7⟩ := hx j c hc
      refine ⟨d, ?_, h7.step hst⟩
      rw [Map.set_at, Addr.add_lit]
      simp only [Nat.zero_add]
      rw [cell_of_row _ g j cur r.elem fr hg]
      exact h6
  · rcases inv hi with ⟨h6, h7, h8⟩ | ⟨rfl, rfl⟩ <;> rcases inv hj with ⟨k6, k7, k8⟩ | ⟨rfl, rfl⟩
    · rw [Map.set_at_ne (by omega), Map.set_at_ne (by omega)]
      exact h.inj i j r1 r2 h8 k8 hne ho1
    · rw [Map.set_at_ne (by omega), Map.set_at]
      exact (far h8 h7).2
    · rw [Map.set_at, Map.set_at_ne (by omega)]
      exact fun e => (far k8 k7).2 e.symm
    · omega
end
end Go.Proofs.YtodbjnngkonklaaGreat

namespace Go.Proofs.YtodbjnngkonklaaGreat
open Go.RowKit
set_option linter.unusedVariables false
set_option linter.unusedSimpArgs false

structure St where
  n : Nat
  T : List (Nat × Value)
  M : Mem
def look : List (Nat × Value) → Nat → Option Value
  | [], _ => none
  | (u, v) :: T, t => if t = u then some v else look T t
def St.get (S : St) (t : Nat) : Option Value := if t < S.n then look S.T t else none
def plainD (v : Value) : Bool := plainV v || (match v with | .agg cs => cs.all plainV | .tuple cs => cs.size == 0 | _ => false)
def St.ev (S : St) : Operand → Option Value
  | .tmp t => S.get t
  | .const v => if plainD v = true then some v else none
  | .func f => some (.func (.func f) #[] #[])
  | .global _ => none
def St.put (S : St) (d : Option Tmp) (v : Value) : St :=
  match d with
  | some d => { S with T := (d, v) :: S.T }
  | none => S
structure Env (S : St) (μ : Map) (a : Act) : Prop where
  size : a.tmps.size = S.n
  val : ∀ t v, look S.T t = some v → t < S.n → ∃ c, a.tmps[t]? = some c ∧ VRel S.M μ v c
  defers : a.defers = []

theorem VRel.of_plainD {M : Mem} {μ : Map} {v : Value} (h : plainD v = true) : VRel M μ v v := by
  unfold plainD at h
  rw [Bool.or_eq_true] at h
  rcases h with h | h
  · exact .plain h
  · split at h
    · rename_i cs
      refine .agg rfl fun i x y hx hy => ?_
      rw [hx] at hy
      injection hy with hy
      subst hy
      obtain ⟨hi, rfl⟩ := Array.getElem?_eq_some_iff.1 hx
      exact .plain (Array.all_eq_true.1 h i hi)
    · rename_i cs
      refine .tup rfl fun i x y hx hy => ?_
      have : cs.size = 0 := by simpa using h
      have := (Array.getElem?_eq_some_iff.1 hx).1
      omega
    · cases h

section
variable {S : St} {μ : Map} {a : Act}
theorem Env.ev (h : Env S μ a) {x : Operand} {v : Value} (hx : S.ev x = some v) : VRel S.M μ v (a.eval x) := by
  cases x with
  | tmp t =>
    simp only [St.ev, St.get] at hx
    split at hx
    · rename_i hlt
      obtain ⟨c, h1, h2⟩ := h.val t v hx hlt
      show VRel S.M μ v (a.tmps.getD t undef)
      rw [Array.getD_eq_getD_getElem?, h1]
      exact h2
    · cases hx
  | const u =>
    simp only [St.ev] at hx
    split at hx
    · rename_i hp
      injection hx with hx
      subst hx
      exact .of_plainD hp
    · cases hx
  | func f =>
    simp only [St.ev] at hx
    injection hx with hx
    subst hx
    exact .fn rfl (fun i x y h => by simp at h) rfl (fun i x y h => by simp at h)
  | global g => simp [St.ev] at hx
theorem Env.put {M' : Mem} {μ' : Map} {b : Nat} {w w' : World} (h : Env S μ a) (hst : Step b S.M μ w M' μ' w') {v c : Value} (hv : VRel M' μ' v c) (d : Option Tmp) :
    Env (St.put { S with M := M' } d v) μ' (a.put d c) := by
  cases d with
  | none => exact ⟨h.size, fun t u hu ht => by
      obtain ⟨c0, h1, h2⟩ := h.val t u hu ht
      exact ⟨c0, h1, h2.step hst⟩, h.defers⟩
  | some d =>
    refine ⟨by simp [Act.put, St.put, h.size], fun t u hu ht => ?_, by simpa [Act.put] using h.defers⟩
    simp only [St.put, look] at hu ht ⊢
    split at hu
    · rename_i e
      subst e
      injection hu with hu
      subst hu
      refine ⟨c, ?_, hv⟩
      simp only [Act.put]
      rw [Array.getElem?_setIfInBounds_self, if_pos (by rw [h.size]; exact ht)]
    · rename_i e
      obtain ⟨c0, h1, h2⟩ := h.val t u hu ht
      refine ⟨c0, ?_, h2.step hst⟩
      simp only [Act.put]
      rw [Array.getElem?_setIfInBounds_ne (fun h => e h.symm)]
      exact h1
end

/-- A mark that keeps simp out of an argument. -/
def Tk {α : Type} (_ : α) : Type := Unit
def tk {α : Type} {a : α} : Tk a := ()
/-- With what an option holds. -/
def ow {α : Type} (o : Option α) (K : α → Prop) (_ : Tk K := tk) : Prop :=
  match o with
  | some a => K a
  | none => False
@[simp] theorem ow_some {α : Type} (a : α) (K : α → Prop) : ow (some a) K = K a := (rfl)
@[simp] theorem ow_none {α : Type} (K : α → Prop) : ow none K = False := (rfl)
theorem ow_iff {α : Type} {o : Option α} {K : α → Prop} : ow o K ↔ ∃ a, o = some a ∧ K a := by
  cases o <;> simp [ow]

def cellAt (M : Mem) (id off : Nat) : Option Value :=
  match M[id]? with
  | some (.live r) => r.cells[off]?
  | _ => none
def cellsAt (M : Mem) (id off k : Nat) : Option (List Value) :=
  match M[id]? with
  | some (.live r) => if off + k ≤ r.cells.length then some ((r.cells.drop off).take k) else none
  | _ => none
def oneV (v : Value) : Bool :=
  match v with
  | .agg _ => false
  | .tuple _ => false
  | _ => true
def putCells (b : Nat) (M : Mem) (id off : Nat) (vs : List Value) : Option Mem :=
  match M[id]? with
  | some (.live r) => if b ≤ id ∧ r.own = true ∧ off + vs.length ≤ r.cells.length ∧ vs.all oneV = true then some (M.set id (.live { r with cells := splice r.cells off vs })) else none
  | _ => none

/-- What is asked of a type: loaded as one cell (none) or as some. -/
def qLoad (P : Program) (t : TypeId) : Option (Option Nat) :=
  match P.underlying t with
  | some (.struct _) => (P.info? t).map fun i => some i.size
  | some (.array ..) => (P.info? t).map fun i => some i.size
  | some _ => (P.info? t).map fun _ => none
  | none => none
def qSize (P : Program) (t : TypeId) : Option Nat := (P.info? t).map (·.size)
def qZero (P : Program) (t : TypeId) : Option (List Value) :=
  match P.info? t with
  | some i => match i.zero with
    | some z => if z.cells.toList.all plainV = true then some z.cells.toList else none
    | none => none
  | none => none
/-- A slice's element type, its cells and bytes. -/
def qSlice (P : Program) (t : TypeId) : Option (TypeId × Nat × Nat) :=
  match P.underlying t with
  | some (.slice e) => match P.info? e with
    | some i => if 0 < i.size then some (e, i.size, i.bytes) else none
    | none => none
  | _ => none
/-- A field's offset, and how it is read. -/
def qField (P : Program) (t : TypeId) (f : Nat) : Option (Nat × Option Nat) :=
  match P.underlying t with
  | some (.struct fs) => match fs[f]? with
    | some f => match qLoad P f.type with
      | some k => if (P.info? f.type).any (fun i => i.size != 0) then some (f.offset, k) else none
      | none => none
    | none => none
  | _ => none
/-- How a struct is built: its zero, and its fields' places. -/
def qBuild (P : Program) (t : TypeId) : Option (Array Value × Array (Nat × Nat)) :=
  match P.underlying t with
  | some (.struct fs) => match P.info? t with
    | some i => match i.zero with
      | some z => if z.cells.toList.all plainV = true && fs.all (fun f => (P.info? f.type).isSome) then some (z.cells, fs.map fun f => (f.offset, P.cellsOf f.type)) else none
      | none => none
    | none => none
  | _ => none

/-- The operation runs as K says, whatever world the abstract state stands for. -/
def OpRun (P : Program) (b : Nat) (o : Oper) (S : St) (K : Value → Mem → Prop) : Prop :=
  ∀ μ a w, Env S μ a → Sim S.M μ w → ∃ nx w' v c M' μ', (execOp a.eval o).run P w = .ok nx w' ∧ (nx = .value c ∨ nx = .skip ∧ c = undef) ∧ K v M' ∧ VRel M' μ' v c ∧ Sim M' μ' w' ∧ Step b S.M μ w M' μ' w'

section
variable {P : Program} {b : Nat} {o : Oper} {S : St} {K : Value → Mem → Prop}
theorem OpRun.pure {v : Value} (h : ∀ μ a w, Env S μ a → Sim S.M μ w → ∃ c, (execOp a.eval o).run P w = .ok (.value c) w ∧ VRel S.M μ v c) (hK : K v S.M) : OpRun P b o S K := by
  intro μ a w hE hS
  obtain ⟨c, h1, h2⟩ := h μ a w hE hS
  exact ⟨_, w, v, c, S.M, μ, h1, .inl rfl, hK, h2, hS, .refl⟩

theorem Sim.cell {M : Mem} {μ : Map} {w : World} (h : Sim M μ w) {id off : Nat} {v : Value} (hc : cellAt M id off = some v) :
    ∃ r, M[id]? = some (.live r) ∧ ∃ d, w.cell? ((μ.at_ id).add off) = some d ∧ VRel M μ v d := by
  unfold cellAt at hc
  split at hc
  · rename_i r hr
    exact ⟨r, hr, (h.row id r hr).cell off v hc⟩
  · cases hc

theorem or_move {x : Operand} (ho : o.op = .move x ∨ o.op = .assign x) (h : ow (S.ev x) fun v => K v S.M) : OpRun P b o S K := by
  obtain ⟨v, hv, hK⟩ := ow_iff.1 h
  refine .pure (v := v) (fun μ a w hE hS => ⟨_, ?_, hE.ev hv⟩) hK
  rcases ho with ho | ho <;> simp [execOp, ho]
theorem or_pick {c x y : Operand} (ho : o.op = .pick c x y) (h : ow (S.ev c) fun cv => ow (S.ev x) fun u => ow (S.ev y) fun v => match cv with | .bool t => K (if t = true then u else v) S.M | _ => False) : OpRun P b o S K := by
  obtain ⟨cv, hc, h⟩ := ow_iff.1 h
  obtain ⟨u, hu, h⟩ := ow_iff.1 h
  obtain ⟨v, hv, h⟩ := ow_iff.1 h
  split at h
  · rename_i t _ _
    refine .pure (fun μ a w hE hS => ⟨if t = true then a.eval x else a.eval y, ?_, ?_⟩) h
    · have := (hE.ev hc).bool
      simp [execOp, ho, this, asBool]
    · split
      · exact hE.ev hu
      · exact hE.ev hv
  · exact h.elim
theorem or_box {t : TypeId} {x : Operand} (ho : o.op = .box t x) (h : ow (S.ev x) fun v => K (.pointer (some ⟨S.M.length, 0, none⟩)) (S.M ++ [.live ⟨v.cells.toList, true, true, t, v.cells.size⟩])) : OpRun P b o S K := by
  obtain ⟨v, hv, hK⟩ := ow_iff.1 h
  intro μ a w hE hS
  have hr := (hE.ev hv).cells
  obtain ⟨h1, h2⟩ := hS.alloc (b := b) (xs := v.cells.toList) (cur := (a.eval x).cells) (elem := t) (esz := v.cells.size) (tight := true) (by have := hr.1; simpa using Nat.le_of_eq this) (fun _ => by simpa using hr.1)
    (fun j c hc => by obtain ⟨d, hd, hh⟩ := hr.at_ hc; exact ⟨d, by simpa using hd, hh⟩)
  refine ⟨.value (.pointer (some ⟨w.heap.size, 0, none⟩)), _, _, _, _, _, ?_, .inl rfl, hK, ?_, h1, h2⟩
  · simp [execOp, ho, Instr.box, newVar, newRow]
  · exact .ptr getElem?_snoc_eq rfl fun r _ => by rw [Map.set_at, Addr.add_lit]
theorem or_alloc {t : TypeId} (ho : o.op = .alloc t) (h : ow (qZero P t) fun cs => K (.pointer (some ⟨S.M.length, 0, none⟩)) (S.M ++ [.live ⟨cs, true, true, t, cs.length⟩])) : OpRun P b o S K := by
  obtain ⟨cs, hq, hK⟩ := ow_iff.1 h
  intro μ a w hE hS
  unfold qZero at hq
  split at hq
  · rename_i i hi
    split at hq
    · rename_i z hz
      split at hq
      · rename_i hp
        injection hq with hq
        obtain ⟨h1, h2⟩ := hS.alloc (b := b) (xs := cs) (cur := z.cells) (elem := t) (esz := cs.length) (tight := true) (by rw [← hq]; simp) (fun _ => by rw [← hq]; simp)
          (fun j c hc => ⟨c, by rw [← hq] at hc; simpa using hc, .plain (by rw [← hq] at hc; exact List.all_eq_true.1 hp c (List.mem_of_getElem? hc))⟩)
        refine ⟨.value (.pointer (some ⟨w.heap.size, 0, none⟩)), _, _, _, _, _, ?_, .inl rfl, hK, ?_, h1, h2⟩
        · simp [execOp, ho, Instr.alloc, zeroValue, typeInfo, hi, hz, newVar, newRow]
        · exact .ptr getElem?_snoc_eq rfl fun r _ => by rw [Map.set_at, Addr.add_lit]
      · cases hq
    · cases hq
  · cases hq

theorem run_loadCells {w : World} (a : Addr) (vs : List Value) (h : ∀ (j : Nat) u, vs[j]? = some u → w.cell? (a.add j) = some u) : (loadCells a vs.length).run P w = .ok vs.toArray w := by
  have key : ∀ (us : List Value) (i : Nat) (acc : Array Value), (∀ (j : Nat) u, us[j]? = some u → w.cell? (a.add (i + j)) = some u) → (loadCellsFrom a i us.length acc).run P w = .ok (acc ++ us.toArray) w := by
    intro us
    induction us with
    | nil => intro i acc _; simp [loadCellsFrom]
    | cons u us ih =>
      intro i acc hu
      have h0 := hu 0 u rfl
      simp only [Nat.add_zero] at h0
      simp only [List.length_cons, loadCellsFrom, Sem.run_bind, run_load, h0, Result.andThen_ok]
      rw [ih (i + 1) (acc.push u) fun j v hv => by have := hu (j + 1) v (by simpa using hv); rwa [show i + 1 + j = i + (j + 1) by omega]]
      congr 1
      apply Array.ext'
      simp
  have := key vs 0 #[] (by simpa using h)
  simpa [loadCells] using this

theorem Sim.cells {M : Mem} {μ : Map} {w : World} (h : Sim M μ w) {id off k : Nat} {vs : List Value} (hc : cellsAt M id off k = some vs) :
    ∃ r, M[id]? = some (.live r) ∧ vs.length = k ∧ ∃ ds, LRel M μ vs ds ∧ ∀ (j : Nat) u, ds[j]? = some u → w.cell? ((μ.at_ id).add (off + j)) = some u := by
  unfold cellsAt at hc
  split at hc
  · rename_i r hr
    split at hc
    · rename_i hle
      injection hc with hc
      have hlen : vs.length = k := by rw [← hc]; simp; omega
      refine ⟨r, hr, hlen, (List.range k).map fun j => (w.cell? ((μ.at_ id).add (off + j))).getD undef, ?_, ?_⟩
      · refine ⟨by simp [hlen], fun i x y hx hy => ?_⟩
        have hi : i < k := by have := (List.getElem?_eq_some_iff.1 hx).1; omega
        have hx' : r.cells[off + i]? = some x := by
          rw [← hc, List.getElem?_take, if_pos hi, List.getElem?_drop] at hx
          exact hx
        obtain ⟨d, hd, hrel⟩ := (h.row id r hr).cell (off + i) x hx'
        simp [hi, hd] at hy
        rw [← hy]
        exact hrel
      · intro j u hu
        have hj : j < k := by have := (List.getElem?_eq_some_iff.1 hu).1; simpa using this
        have hx' : r.cells[off + j]? = some (r.cells[off + j]'(by omega)) := List.getElem?_eq_getElem _
        obtain ⟨d, hd, hrel⟩ := (h.row id r hr).cell (off + j) _ hx'
        simp [hj, hd] at hu
        rw [hd, hu]
    · cases hc
  · cases hc

def loadK (P : Program) (S : St) (t : TypeId) (K : Value → Mem → Prop) (v : Value) : Prop :=
  match v with
  | .pointer (some ⟨id, off, none⟩) => ow (qLoad P t) fun k => match k with
    | some k => ow (cellsAt S.M id off k) fun cs => K (.agg cs.toArray) S.M
    | none => ow (cellAt S.M id off) fun c => K c S.M
  | _ => False
theorem qLoad_some {t : TypeId} {k : Option Nat} (h : qLoad P t = some k) : ∃ d i, P.underlying t = some d ∧ P.info? t = some i ∧
    ((∃ n, k = some n ∧ i.size = n ∧ ((∃ fs, d = .struct fs) ∨ ∃ n e, d = .array n e)) ∨ (k = none ∧ (∀ fs, d ≠ .struct fs) ∧ ∀ n e, d ≠ .array n e)) := by
  unfold qLoad at h
  split at h
  · rename_i fs hd
    cases hi : P.info? t with
    | none => rw [hi] at h; cases h
    | some i => rw [hi] at h; injection h with h; exact ⟨_, i, hd, rfl, .inl ⟨_, h.symm, rfl, .inl ⟨_, rfl⟩⟩⟩
  · rename_i n e hd
    cases hi : P.info? t with
    | none => rw [hi] at h; cases h
    | some i => rw [hi] at h; injection h with h; exact ⟨_, i, hd, rfl, .inl ⟨_, h.symm, rfl, .inr ⟨_, _, rfl⟩⟩⟩
  · rename_i d h1 h2 hd
    cases hi : P.info? t with
    | none => rw [hi] at h; cases h
    | some i => rw [hi] at h; injection h with h; exact ⟨_, i, hd, rfl, .inr ⟨h.symm, h1, h2⟩⟩
  · cases h
theorem run_isAgg {t : TypeId} {d : TypeDesc} (h : P.underlying t = some d) (w : World) : (isAgg t).run P w = .ok (match d with | .struct _ => true | .array .. => true | _ => false) w := by
  simp only [isAgg, Sem.run_bind, run_underlying h, Result.andThen_ok]
  cases d <;> rfl
theorem or_load {t : TypeId} {x : Operand} (ho : o.op = .load t x) (h : ow (S.ev x) (loadK P S t K)) : OpRun P b o S K := by
  obtain ⟨v, hv, h⟩ := ow_iff.1 h
  unfold loadK at h
  split at h
  · rename_i id off
    obtain ⟨k, hk, h⟩ := ow_iff.1 h
    obtain ⟨d, i, hd, hi, hcase⟩ := qLoad_some hk
    rcases hcase with ⟨n, rfl, hn, hagg⟩ | ⟨rfl, hn1, hn2⟩
    · obtain ⟨cs, hcs, hK⟩ := ow_iff.1 h
      refine .pure (fun μ a w hE hS => ?_) hK
      obtain ⟨-, ad, s, he, hs, hkn, hat⟩ := (hE.ev hv).ptr_inv
      obtain ⟨r, hr, hlen, ds, hrel, hcell⟩ := hS.cells hcs
      rw [hr] at hs
      injection hs with hs
      have := hat r hs.symm
      refine ⟨.agg ds.toArray, ?_, .mk_agg hrel⟩
      have hl : ds.length = n := by rw [← hrel.1, hlen]
      have hrun := run_loadCells (P := P) (w := w) ad ds (by intro j u hu; rw [this, add_add_]; exact hcell j u hu)
      rw [hl] at hrun
      have hA := run_isAgg hd w
      have hA' : (isAgg t).run P w = .ok true w := by rw [hA]; rcases hagg with ⟨fs, rfl⟩ | ⟨n, e, rfl⟩ <;> rfl
      simp [execOp, ho, Instr.loadAt, Instr.sureAddr, he, loadVar, hA', sizeOf, typeInfo, hi, hn, hrun]
    · obtain ⟨c, hc, hK⟩ := ow_iff.1 h
      refine .pure (fun μ a w hE hS => ?_) hK
      obtain ⟨-, ad, s, he, hs, hkn, hat⟩ := (hE.ev hv).ptr_inv
      obtain ⟨r, hr, e, hcell, hrel⟩ := hS.cell hc
      rw [hr] at hs
      injection hs with hs
      have := hat r hs.symm
      refine ⟨e, ?_, hrel⟩
      have hA := run_isAgg hd w
      have hA' : (isAgg t).run P w = .ok false w := by
        rw [hA]
        cases d <;> first | rfl | exact absurd rfl (hn1 _) | exact absurd rfl (hn2 _ _)
      rw [← this] at hcell
      simp [execOp, ho, Instr.loadAt, Instr.sureAddr, he, loadVar, hA', hcell]
  · exact h.elim

theorem set_self {α : Type} {l : List α} {i : Nat} {x : α} (h : l[i]? = some x) : l.set i x = l := by
  apply List.ext_getElem?
  intro j
  rw [List.getElem?_set]
  split
  · rename_i e
    subst e
    rw [h, if_pos (List.getElem?_eq_some_iff.1 h).1]
  · rfl
theorem Sim.storeAll {M : Mem} {μ : Map} {id : Nat} : ∀ (vs cs : List Value) (off : Nat) (M : Mem) (w : World) (r : Row), Sim M μ w → M[id]? = some (.live r) → r.own = true → b ≤ id → off + vs.length ≤ r.cells.length → LRel M μ vs cs → vs.all oneV = true →
    ∃ w', (∀ i, (storeCells ((μ.at_ id).add off) cs i).run P w = (storeCells ((μ.at_ id).add (off + i)) cs 0).run P w) ∧ (storeCells ((μ.at_ id).add off) cs 0).run P w = .ok () w' ∧ Sim (M.set id (.live { r with cells := splice r.cells off vs })) μ w' ∧ Step b M μ w (M.set id (.live { r with cells := splice r.cells off vs })) μ w' := by
  have shift : ∀ (cs : List Value) (a : Addr) (i j : Nat) (w : World), (storeCells (a.add j) cs i).run P w = (storeCells a cs (j + i)).run P w := by
    intro cs
    induction cs with
    | nil => intro a i j w; simp [storeCells]
    | cons c cs ih =>
      intro a i j w
      simp only [storeCells, Sem.run_bind, add_add_]
      congr 1
      funext _ w'
      rw [ih, show j + (i + 1) = j + i + 1 by omega]
  intro vs
  induction vs with
  | nil =>
    intro cs off M w r hS hr _ _ _ hrel _
    have : cs = [] := List.eq_nil_of_length_eq_zero hrel.1.symm
    subst this
    refine ⟨w, fun i => by simp [storeCells], by simp [storeCells], ?_, ?_⟩
    all_goals
      have e : M.set id (.live { r with cells := splice r.cells off [] }) = M := by
        simp only [splice]
        exact set_self hr
      rw [e]
    · exact hS
    · exact .refl
  | cons v vs ih =>
    intro cs off M w r hS hr ho hb hle hrel hone
    have hid := (List.getElem?_eq_some_iff.1 hr).1
    match cs, hrel with
    | [], hrel => exact absurd hrel.1 (by simp)
    | c :: cs, hrel =>
      have hv : VRel M μ v c := hrel.2 0 v c rfl rfl
      simp only [List.length_cons] at hle
      simp only [List.all_cons, Bool.and_eq_true] at hone
      obtain ⟨h1, h2, ⟨d, hd⟩, hf⟩ := hS.store hr ho hb (j := off) (by omega) hv
      have hr' : (M.set id (.live { r with cells := r.cells.set off v }))[id]? = some (.live { r with cells := r.cells.set off v }) := List.getElem?_set_self hid
      have hrel' : LRel (M.set id (.live { r with cells := r.cells.set off v })) μ vs cs := LRel.step (b := b) ⟨by simpa using hrel.1, fun i x y hx hy => hrel.2 (i + 1) x y (by simpa using hx) (by simpa using hy)⟩ h2
      obtain ⟨w', -, h4, h5, h6⟩ := ih cs (off + 1) _ _ _ h1 hr' ho hb (by simp; omega) hrel' hone.2
      have hc1 : ∀ xs, c ≠ .agg xs := by rintro xs rfl; cases hv with
        | plain hp => simp [plainV] at hp
        | agg => simp [oneV] at hone
      have hc2 : ∀ xs, c ≠ .tuple xs := by rintro xs rfl; cases hv with
        | plain hp => simp [plainV] at hp
        | tup => simp [oneV] at hone
      have hst : Sem.run P (Go.store ((μ.at_ id).add off) c) w = Result.ok () (w.setCell ((μ.at_ id).add off) c) := by
        cases c <;> first | exact absurd rfl (hc1 _) | exact absurd rfl (hc2 _) | simp [Go.store, Sem.run, hd, hf]
      refine ⟨w', fun i => by rw [shift, shift]; congr 1, ?_, ?_, ?_⟩
      · simp only [storeCells, Sem.run_bind, add_add_, Nat.add_zero, hst, Result.andThen_ok]
        rw [shift, Nat.zero_add]
        rw [shift] at h4
        simpa using h4
      · simpa [splice] using h5
      · have := h2.trans h6
        simpa [splice] using this

def storeK (P : Program) (b : Nat) (S : St) (t : TypeId) (K : Value → Mem → Prop) (p v : Value) : Prop :=
  match p with
  | .pointer (some ⟨id, off, none⟩) => qSize P t = some v.cells.size ∧ ow (putCells b S.M id off v.cells.toList) fun M' => K undef M'
  | _ => False
theorem or_store {t : TypeId} {x y : Operand} (ho : o.op = .store t x y) (h : ow (S.ev x) fun p => ow (S.ev y) fun v => storeK P b S t K p v) : OpRun P b o S K := by
  obtain ⟨p, hp, h⟩ := ow_iff.1 h
  obtain ⟨v, hv, h⟩ := ow_iff.1 h
  unfold storeK at h
  split at h
  · rename_i id off _
    obtain ⟨hq, h⟩ := h
    obtain ⟨M', hM, hK⟩ := ow_iff.1 h
    intro μ a w hE hS
    obtain ⟨-, ad, s, he, hs, hkn, hat⟩ := (hE.ev hp).ptr_inv
    have hrel := (hE.ev hv).cells
    unfold putCells at hM
    split at hM
    · rename_i r hr
      split at hM
      · rename_i hc
        injection hM with hM
        subst hM
        rw [hr] at hs
        injection hs with hs
        have hA := hat r hs.symm
        obtain ⟨w', -, h4, h5, h6⟩ := Sim.storeAll (P := P) (b := b) (M := S.M) (id := id) v.cells.toList (a.eval y).cells.toList off S.M w r hS hr hc.2.1 hc.1 hc.2.2.1 hrel hc.2.2.2
        rw [← hA] at h4
        refine ⟨.skip, w', undef, undef, _, μ, ?_, .inr ⟨rfl, rfl⟩, hK, .tup rfl (fun i x y h => by simp at h), h5, h6⟩
        unfold qSize at hq
        cases hi : P.info? t with
        | none => rw [hi] at hq; cases hq
        | some i =>
          rw [hi] at hq
          simp only [Option.map_some, Option.some.injEq] at hq
          have hsz : (a.eval y).cells.size = i.size := by have := hrel.1; simp at this; omega
          simp [execOp, ho, Instr.storeAt, Instr.sureAddr, he, storeVar, sizeOf, typeInfo, hi, hsz, h4]
      · cases hM
    · cases hM
  · exact h.elim
end
end Go.Proofs.YtodbjnngkonklaaGreat
