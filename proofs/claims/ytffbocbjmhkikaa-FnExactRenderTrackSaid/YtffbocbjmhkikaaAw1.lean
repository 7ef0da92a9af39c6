/- Abstract memory and values for walks: what an abstract state says of a world, and how it is kept. No conditions. -/
import Derived.WalkKit
import Derived.Deep.Draws
namespace Go.Proofs.Ytffbocbjmhkikaa
open Go.RowKit
set_option linter.unusedVariables false
set_option linter.unusedSimpArgs false

structure Row where
  cells : List Value
  own : Bool
  tight : Bool
  elem : TypeId
  esz : Nat
inductive Slot where
  | live (r : Row)
  | dead
  | hole
abbrev Mem := List Slot
structure Map where
  at_ : Nat → Addr
  room : Nat → Nat
def Slot.known : Slot → Bool
  | .hole => false
  | _ => true
@[simp] theorem Slot.known_live (r : Row) : (Slot.live r).known = true := (rfl)
@[simp] theorem Slot.known_dead : Slot.dead.known = true := (rfl)
@[simp] theorem Slot.known_hole : Slot.hole.known = false := (rfl)

/-- Values without addresses, of one cell. -/
def plainV : Value → Bool
  | .bool _ => true
  | .int _ _ => true
  | .string _ => true
  | .pointer none => true
  | .slice none n c => n == 0 && c == 0
  | .map none => true
  | .nilFunc => true
  | .nilIface => true
  | _ => false

inductive VRel (M : Mem) (μ : Map) : Value → Value → Prop
  | plain {v : Value} : plainV v = true → VRel M μ v v
  | ptr {id off : Nat} {a : Addr} {s : Slot} : M[id]? = some s → s.known = true → (∀ r, s = .live r → a = (μ.at_ id).add off) → VRel M μ (.pointer (some ⟨id, off, none⟩)) (.pointer (some a))
  | sl {id off n m c : Nat} {a : Addr} {s : Slot} : M[id]? = some s → s.known = true → n ≤ c → c ≤ maxLen →
      (∀ r, s = .live r → ((c = 0 ∧ off ≠ 0) ∨ a = (μ.at_ id).add off) ∧ (r.own = true → off + c * r.esz = μ.room id)) → VRel M μ (.slice (some ⟨id, off, none⟩) n m) (.slice (some a) n c)
  | agg {xs ys : Array Value} : xs.size = ys.size → (∀ (i : Nat) x y, xs[i]? = some x → ys[i]? = some y → VRel M μ x y) → VRel M μ (.agg xs) (.agg ys)
  | tup {xs ys : Array Value} : xs.size = ys.size → (∀ (i : Nat) x y, xs[i]? = some x → ys[i]? = some y → VRel M μ x y) → VRel M μ (.tuple xs) (.tuple ys)
  | fn {f : Fn} {xs ys us vs : Array Value} : xs.size = ys.size → (∀ (i : Nat) x y, xs[i]? = some x → ys[i]? = some y → VRel M μ x y) →
      us.size = vs.size → (∀ (i : Nat) x y, us[i]? = some x → vs[i]? = some y → VRel M μ x y) → VRel M μ (.func f xs us) (.func f ys vs)

/-- Lists of values, one by one. -/
def LRel (M : Mem) (μ : Map) (xs ys : List Value) : Prop := xs.length = ys.length ∧ ∀ (i : Nat) x y, xs[i]? = some x → ys[i]? = some y → VRel M μ x y
theorem LRel.nil {M : Mem} {μ : Map} : LRel M μ [] [] := ⟨rfl, fun i x y h => by simp at h⟩
theorem LRel.cons {M : Mem} {μ : Map} {x y : Value} {xs ys : List Value} (h : VRel M μ x y) (h' : LRel M μ xs ys) : LRel M μ (x :: xs) (y :: ys) := by
  refine ⟨by simp [h'.1], fun i u v hu hv => ?_⟩
  cases i with
  | zero => simp at hu hv; subst hu; subst hv; exact h
  | succ i => exact h'.2 i u v (by simpa using hu) (by simpa using hv)
theorem LRel.at_ {M : Mem} {μ : Map} {xs ys : List Value} (h : LRel M μ xs ys) {i : Nat} {x : Value} (hx : xs[i]? = some x) : ∃ y, ys[i]? = some y ∧ VRel M μ x y := by
  have hl := (List.getElem?_eq_some_iff.1 hx).1
  have hy : ys[i]? = some (ys[i]'(by have := h.1; omega)) := List.getElem?_eq_getElem _
  exact ⟨_, hy, h.2 i _ _ hx hy⟩
theorem LRel.append {M : Mem} {μ : Map} {xs ys us vs : List Value} (h : LRel M μ xs ys) (h' : LRel M μ us vs) : LRel M μ (xs ++ us) (ys ++ vs) := by
  refine ⟨by simp [h.1, h'.1], fun i u v hu hv => ?_⟩
  have e := h.1
  by_cases hi : i < xs.length
  · rw [List.getElem?_append_left hi] at hu
    rw [List.getElem?_append_left (by omega)] at hv
    exact h.2 i u v hu hv
  · rw [List.getElem?_append_right (by omega)] at hu
    rw [List.getElem?_append_right (by omega), ← e] at hv
    exact h'.2 _ u v hu hv
theorem LRel.drop {M : Mem} {μ : Map} {xs ys : List Value} (h : LRel M μ xs ys) (n : Nat) : LRel M μ (xs.drop n) (ys.drop n) :=
  ⟨by simp [h.1], fun i u v hu hv => h.2 (n + i) u v (by simpa using hu) (by simpa using hv)⟩
theorem LRel.take {M : Mem} {μ : Map} {xs ys : List Value} (h : LRel M μ xs ys) (n : Nat) : LRel M μ (xs.take n) (ys.take n) := by
  refine ⟨by simp [h.1], fun i u v hu hv => ?_⟩
  rw [List.getElem?_take] at hu hv
  by_cases hi : i < n
  · rw [if_pos hi] at hu hv; exact h.2 i u v hu hv
  · rw [if_neg hi] at hu; cases hu

/-- What a live row says of the world. -/
structure RowRel (M : Mem) (μ : Map) (w : World) (id : Nat) (r : Row) : Prop where
  lt : (μ.at_ id).block < w.heap.size
  cell : ∀ (j : Nat) c, r.cells[j]? = some c → ∃ d, w.cell? ((μ.at_ id).add j) = some d ∧ VRel M μ c d
  own : r.own = true → ∃ (b : Nat) (cur : Array Value) (fr : Nat × Nat), μ.at_ id = ⟨b, 0, none⟩ ∧ w.heap[b]? = some (.cells cur r.elem fr) ∧ (∀ j, j < cur.size → ¬ (fr.1 ≤ j ∧ j < fr.2)) ∧ cur.size = μ.room id ∧ r.cells.length ≤ cur.size ∧ (r.tight = true → r.cells.length = cur.size)
structure Sim (M : Mem) (μ : Map) (w : World) : Prop where
  row : ∀ (id : Nat) r, M[id]? = some (.live r) → RowRel M μ w id r
  inj : ∀ (i j : Nat) r s, M[i]? = some (.live r) → M[j]? = some (.live s) → i ≠ j → r.own = true → (μ.at_ i).block ≠ (μ.at_ j).block

/-- How a slot may turn; p: it is write-protected. -/
def Slot.evolves (p : Prop) : Slot → Slot → Prop
  | .hole, .hole => True
  | .dead, .dead => True
  | .live r, .live r' => r'.own = r.own ∧ r'.tight = r.tight ∧ r'.elem = r.elem ∧ r'.esz = r.esz ∧ r'.cells.length = r.cells.length ∧ (p → r' = r)
  | .live _, .dead => ¬ p
  | _, _ => False
theorem Slot.evolves_refl (p : Prop) (s : Slot) : Slot.evolves p s s := by cases s <;> simp [Slot.evolves]
theorem Slot.evolves_trans {p : Prop} {s t u : Slot} (h : Slot.evolves p s t) (h' : Slot.evolves p t u) : Slot.evolves p s u := by
  cases s <;> cases t <;> cases u <;> simp_all [Slot.evolves]
theorem Slot.evolves_mono {p q : Prop} (hpq : q → p) {s t : Slot} (h : Slot.evolves p s t) : Slot.evolves q s t := by
  cases s <;> cases t <;> simp_all [Slot.evolves]
theorem Slot.evolves_known {p : Prop} {s t : Slot} (h : Slot.evolves p s t) : t.known = s.known := by
  cases s <;> cases t <;> simp_all [Slot.evolves, Slot.known]

/-- From one abstract memory and world to another: ids below b are write-protected. -/
structure Step (b : Nat) (M : Mem) (μ : Map) (w : World) (M' : Mem) (μ' : Map) (w' : World) : Prop where
  slot : ∀ (i : Nat) s, M[i]? = some s → ∃ s', M'[i]? = some s' ∧ Slot.evolves (i < b) s s'
  map : ∀ i, i < M.length → μ'.at_ i = μ.at_ i ∧ μ'.room i = μ.room i
  os : w'.os = w.os
  tape : w'.tape = w.tape
  output : w'.output = w.output
  size : w.heap.size ≤ w'.heap.size
  block : ∀ k, k < w.heap.size → (∀ (i : Nat) r, b ≤ i → M[i]? = some (.live r) → r.own = true → (μ.at_ i).block ≠ k) → w'.heap[k]? = w.heap[k]?
  fresh : ∀ (i : Nat) r', M.length ≤ i → M'[i]? = some (.live r') → w.heap.size ≤ (μ'.at_ i).block ∨ ∃ j r, b ≤ j ∧ M[j]? = some (.live r) ∧ r.own = true ∧ (μ.at_ j).block = (μ'.at_ i).block

section
variable {b b' : Nat} {M M1 M2 : Mem} {μ μ1 μ2 : Map} {w w1 w2 : World}
theorem Step.refl : Step b M μ w M μ w where
  slot := fun i s h => ⟨s, h, Slot.evolves_refl _ _⟩
  map := fun _ _ => ⟨rfl, rfl⟩
  os := rfl
  tape := rfl
  output := rfl
  size := Nat.le_refl _
  block := fun _ _ _ => rfl
  fresh := fun i r' hi h => absurd (List.getElem?_eq_some_iff.1 h).1 (by omega)
theorem Step.length (h : Step b M μ w M1 μ1 w1) : M.length ≤ M1.length := by
  rcases Nat.eq_zero_or_pos M.length with h0 | h0
  · omega
  · obtain ⟨s', hs, -⟩ := h.slot (M.length - 1) (M[M.length - 1]'(by omega)) (List.getElem?_eq_getElem _)
    have := (List.getElem?_eq_some_iff.1 hs).1
    omega
/-- A live row behind a step was live ahead of it, or is new. -/
theorem Step.back (h : Step b M μ w M1 μ1 w1) {i : Nat} {r' : Row} (hi : i < M.length) (h1 : M1[i]? = some (.live r')) : ∃ r, M[i]? = some (.live r) ∧ r'.own = r.own ∧ r'.tight = r.tight ∧ r'.elem = r.elem ∧ r'.esz = r.esz ∧ r'.cells.length = r.cells.length ∧ (i < b → r' = r) := by
  obtain ⟨s', hs, he⟩ := h.slot i _ (List.getElem?_eq_getElem hi)
  rw [h1] at hs
  injection hs with hs
  subst hs
  have : M[i]? = some M[i] := List.getElem?_eq_getElem hi
  cases hm : M[i] with
  | live r => rw [hm] at he this; exact ⟨r, this, he⟩
  | dead => rw [hm] at he; exact he.elim
  | hole => rw [hm] at he; exact he.elim
theorem Step.trans (h : Step b M μ w M1 μ1 w1) (h' : Step b M1 μ1 w1 M2 μ2 w2) : Step b M μ w M2 μ2 w2 where
  slot := fun i s hs => by
    obtain ⟨s1, h1, e1⟩ := h.slot i s hs
    obtain ⟨s2, h2, e2⟩ := h'.slot i s1 h1
    exact ⟨s2, h2, Slot.evolves_trans e1 e2⟩
  map := fun i hi => ⟨(h'.map i (Nat.lt_of_lt_of_le hi h.length)).1.trans (h.map i hi).1, (h'.map i (Nat.lt_of_lt_of_le hi h.length)).2.trans (h.map i hi).2⟩
  os := h'.os.trans h.os
  tape := h'.tape.trans h.tape
  output := h'.output.trans h.output
  size := Nat.le_trans h.size h'.size
  block := fun k hk hn => by
    rw [h'.block k (Nat.lt_of_lt_of_le hk h.size) ?_, h.block k hk hn]
    intro i r hb hi ho
    by_cases hlt : i < M.length
    · obtain ⟨r0, h0, e0, -⟩ := h.back hlt hi
      rw [(h.map i hlt).1]
      exact hn i r0 hb h0 (by rw [← e0]; exact ho)
    · rcases h.fresh i r (by omega) hi with hf | ⟨j, r0, hj, h0, ho0, he⟩
      · omega
      · rw [← he]; exact hn j r0 hj h0 ho0
  fresh := fun i r' hi h2 => by
    by_cases hlt : i < M1.length
    · obtain ⟨r1, h1, e1, -⟩ := h'.back hlt h2
      rw [(h'.map i hlt).1]
      exact h.fresh i r1 hi h1
    · rcases h'.fresh i r' (by omega) h2 with hf | ⟨j, r1, hj, h1, ho1, he⟩
      · exact .inl (Nat.le_trans h.size hf)
      · rw [← he]
        by_cases hjl : j < M.length
        · obtain ⟨r0, h0, e0, -⟩ := h.back hjl h1
          rw [(h.map j hjl).1]
          exact .inr ⟨j, r0, hj, h0, by rw [← e0]; exact ho1, rfl⟩
        · exact h.fresh j r1 (by omega) h1
theorem Step.weaken (h : Step b M μ w M1 μ1 w1) (hb : b' ≤ b) : Step b' M μ w M1 μ1 w1 where
  slot := fun i s hs => by
    obtain ⟨s1, h1, e1⟩ := h.slot i s hs
    exact ⟨s1, h1, Slot.evolves_mono (by omega) e1⟩
  map := h.map
  os := h.os
  tape := h.tape
  output := h.output
  size := h.size
  block := fun k hk hn => h.block k hk fun i r hi => hn i r (by omega)
  fresh := fun i r' hi h1 => by
    rcases h.fresh i r' hi h1 with hf | ⟨j, r, hj, h0, ho0, he⟩
    · exact .inl hf
    · exact .inr ⟨j, r, by omega, h0, ho0, he⟩
theorem VRel.step {v c : Value} (hv : VRel M μ v c) (h : Step b M μ w M1 μ1 w1) : VRel M1 μ1 v c := by
  induction hv with
  | plain hp => exact .plain hp
  | @ptr id off a s hs hk ha =>
    obtain ⟨s1, h1, e1⟩ := h.slot _ _ hs
    have hlt := (List.getElem?_eq_some_iff.1 hs).1
    refine .ptr h1 ((Slot.evolves_known e1).trans hk) fun r hr => ?_
    subst hr
    obtain ⟨r0, h0, -⟩ := h.back hlt h1
    rw [(h.map _ hlt).1]
    rw [hs] at h0
    injection h0 with h0
    exact ha r0 h0
  | @sl id off n m c a s hs hk hn hc ha =>
    obtain ⟨s1, h1, e1⟩ := h.slot _ _ hs
    have hlt := (List.getElem?_eq_some_iff.1 hs).1
    refine .sl h1 ((Slot.evolves_known e1).trans hk) hn hc fun r hr => ?_
    subst hr
    obtain ⟨r0, h0, eo, -, -, es, -⟩ := h.back hlt h1
    rw [(h.map _ hlt).1, (h.map _ hlt).2]
    rw [hs] at h0
    injection h0 with h0
    obtain ⟨h2, h3⟩ := ha r0 h0
    exact ⟨h2, fun ho => by rw [es]; exact h3 (by rw [← eo]; exact ho)⟩
  | agg hsz _ ih => exact .agg hsz ih
  | tup hsz _ ih => exact .tup hsz ih
  | fn hsz _ hsz' _ ih ih' => exact .fn hsz ih hsz' ih'
theorem LRel.step {xs ys : List Value} (hv : LRel M μ xs ys) (h : Step b M μ w M1 μ1 w1) : LRel M1 μ1 xs ys := ⟨hv.1, fun i x y hx hy => (hv.2 i x y hx hy).step h⟩
end

section
variable {M : Mem} {μ : Map} {v c : Value}
theorem VRel.bool {t : Bool} (h : VRel M μ (.bool t) c) : c = .bool t := by cases h; rfl
theorem VRel.int {k : IntKind} {n : Int} (h : VRel M μ (.int k n) c) : c = .int k n := by cases h; rfl
theorem VRel.string {s : ByteArray} (h : VRel M μ (.string s) c) : c = .string s := by cases h; rfl
theorem VRel.of_plain (hp : plainV v = true) (h : VRel M μ v c) : c = v := by
  cases h with
  | plain _ => rfl
  | _ => simp [plainV] at hp
theorem VRel.ptr_inv {id off : Nat} {sp : Option Nat} (h : VRel M μ (.pointer (some ⟨id, off, sp⟩)) c) :
    sp = none ∧ ∃ a s, c = .pointer (some a) ∧ M[id]? = some s ∧ s.known = true ∧ ∀ r, s = .live r → a = (μ.at_ id).add off := by
  cases h with
  | plain hp => simp [plainV] at hp
  | ptr h1 h2 h3 => exact ⟨rfl, _, _, rfl, h1, h2, h3⟩
theorem VRel.sl_inv {id off n m : Nat} {sp : Option Nat} (h : VRel M μ (.slice (some ⟨id, off, sp⟩) n m) c) :
    sp = none ∧ ∃ a cp s, c = .slice (some a) n cp ∧ M[id]? = some s ∧ s.known = true ∧ n ≤ cp ∧ cp ≤ maxLen ∧ ∀ r, s = .live r → ((cp = 0 ∧ off ≠ 0) ∨ a = (μ.at_ id).add off) ∧ (r.own = true → off + cp * r.esz = μ.room id) := by
  cases h with
  | plain hp => simp [plainV] at hp
  | sl h1 h2 h3 h4 h5 => exact ⟨rfl, _, _, _, rfl, h1, h2, h3, h4, h5⟩
theorem VRel.agg_inv {xs : Array Value} (h : VRel M μ (.agg xs) c) : ∃ ys : Array Value, c = .agg ys ∧ LRel M μ xs.toList ys.toList := by
  cases h with
  | plain hp => simp [plainV] at hp
  | agg h1 h2 => exact ⟨_, rfl, by simpa using h1, fun i x y hx hy => h2 i x y (by simpa using hx) (by simpa using hy)⟩
theorem VRel.tup_inv {xs : Array Value} (h : VRel M μ (.tuple xs) c) : ∃ ys : Array Value, c = .tuple ys ∧ LRel M μ xs.toList ys.toList := by
  cases h with
  | plain hp => simp [plainV] at hp
  | tup h1 h2 => exact ⟨_, rfl, by simpa using h1, fun i x y hx hy => h2 i x y (by simpa using hx) (by simpa using hy)⟩
theorem VRel.mk_agg {xs ys : List Value} (h : LRel M μ xs ys) : VRel M μ (.agg xs.toArray) (.agg ys.toArray) :=
  .agg (by simp [h.1]) fun i x y hx hy => h.2 i x y (by simpa using hx) (by simpa using hy)
theorem VRel.mk_tup {xs ys : List Value} (h : LRel M μ xs ys) : VRel M μ (.tuple xs.toArray) (.tuple ys.toArray) :=
  .tup (by simp [h.1]) fun i x y hx hy => h.2 i x y (by simpa using hx) (by simpa using hy)
theorem VRel.cells (h : VRel M μ v c) : LRel M μ v.cells.toList c.cells.toList := by
  have one : ∀ {x y : Value}, VRel M μ x y → LRel M μ [x] [y] := fun hx => .cons hx .nil
  cases h with
  | plain hp => cases v <;> first | exact one (.plain hp) | simp [plainV] at hp
  | ptr h1 h2 h3 => exact one (.ptr h1 h2 h3)
  | sl h1 h2 h3 h4 h5 => exact one (.sl h1 h2 h3 h4 h5)
  | agg h1 h2 => exact ⟨by simpa [Value.cells] using h1, fun i x y hx hy => h2 i x y (by simpa [Value.cells] using hx) (by simpa [Value.cells] using hy)⟩
  | tup h1 h2 => exact one (.tup h1 h2)
  | fn h1 h2 h3 h4 => exact one (.fn h1 h2 h3 h4)
end

theorem add_add_ (a : Addr) (i j : Nat) : (a.add i).add j = a.add (i + j) := by
  unfold Addr.add
  by_cases hi : i = 0 <;> by_cases hj : j = 0 <;> simp [hi, hj, Nat.add_assoc]
theorem block_add_ (a : Addr) (n : Nat) : (a.add n).block = a.block := by unfold Addr.add; split <;> rfl
end Go.Proofs.Ytffbocbjmhkikaa
