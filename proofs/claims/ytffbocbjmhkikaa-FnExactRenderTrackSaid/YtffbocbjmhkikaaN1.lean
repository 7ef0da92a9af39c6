/- Nested lists and records in memory. No conditions. -/
import Derived.Test.YtffbocbjmhkikaaL1
namespace Go.Proofs.Ytffbocbjmhkikaa
open Go.RowKit
set_option linter.unusedVariables false
set_option linter.unusedSimpArgs false
set_option maxRecDepth 100000
attribute [local simp] List.getElem?_cons_zero
attribute [local irreducible] awCond awCall awLoop awDraw ow retQ retC resQ Keeps
/-- The rows with ids from lo up to hi are as they were. -/
def Agree (lo hi : Nat) (M M' : Mem) : Prop := ∀ (i : Nat) s, lo ≤ i → i < hi → M[i]? = some s → M'[i]? = some s
section
variable {M M' : Mem} {lo hi lo' hi' : Nat}
theorem Keeps.agree (h : Keeps M M') : Agree lo hi M M' := fun i s _ _ hs => h.get hs
theorem Turn.agree (h : Turn lo' hi' M M') (hd : hi ≤ lo' ∨ hi' ≤ lo) : Agree lo hi M M' := fun i s h1 h2 hs => h.2 i s hs (by omega)
theorem Same.agree {B : Nat} (h : Same B M M') (hb : hi ≤ B) : Agree lo hi M M' := fun i s _ h2 hs => h.2 i s (by omega) hs
theorem Agree.app (L : Mem) : Agree lo hi M (M ++ L) := (keeps_app L).agree
theorem Agree.thin (h : Agree lo hi M M') (h1 : lo ≤ lo') (h2 : hi' ≤ hi) : Agree lo' hi' M M' := fun i s a b hs => h i s (by omega) (by omega) hs
theorem Agree.trans {M2 : Mem} (h : Agree lo hi M M') (h' : Agree lo hi M' M2) : Agree lo hi M M2 := fun i s a b hs => h' i s a b (h i s a b hs)
theorem Agree.cell (h : Agree lo hi M M') {id off : Nat} {v : Value} (h1 : lo ≤ id) (h2 : id < hi) (hc : cellAt M id off = some v) : cellAt M' id off = some v := by
  unfold cellAt at hc ⊢
  cases hm : M[id]? with
  | none => rw [hm] at hc; cases hc
  | some s => rw [h id s h1 h2 hm]; rw [hm] at hc; exact hc
theorem Agree.cells (h : Agree lo hi M M') {id off n : Nat} {vs : List Value} (h1 : lo ≤ id) (h2 : id < hi) (hc : cellsAt M id off n = some vs) : cellsAt M' id off n = some vs := by
  unfold cellsAt at hc ⊢
  cases hm : M[id]? with
  | none => rw [hm] at hc; cases hc
  | some s => rw [h id s h1 h2 hm]; rw [hm] at hc; exact hc
theorem Agree.esz (h : Agree lo hi M M') {id k : Nat} (h1 : lo ≤ id) (h2 : id < hi) (hc : rowEsz M id = some k) : rowEsz M' id = some k := by
  unfold rowEsz at hc ⊢
  cases hm : M[id]? with
  | none => rw [hm] at hc; cases hc
  | some s => rw [h id s h1 h2 hm]; rw [hm] at hc; exact hc
theorem Agree.cl (h : Agree lo hi M M') {id off : Nat} {xs : List Value} (h1 : lo ≤ id) (h2 : id < hi) (hc : Cl M id off xs) : Cl M' id off xs := fun j x hx => h.cell h1 h2 (hc j x hx)
end
@[simp] theorem cl_nil {M : Mem} {id off : Nat} : Cl M id off [] := fun j x hx => by simp at hx
theorem cl_cons {M : Mem} {id off : Nat} {x : Value} {xs : List Value} : Cl M id off (x :: xs) ↔ cellAt M id off = some x ∧ Cl M id (off + 1) xs := by
  constructor
  · intro h
    exact ⟨h 0 x rfl, fun j y hy => by have := h (j + 1) y (by simpa using hy); rwa [show off + (j + 1) = off + 1 + j by omega] at this⟩
  · rintro ⟨h1, h2⟩ j y hy
    rcases j with _ | j
    · simp at hy; subst hy; exact h1
    · have := h2 j y (by simpa using hy); rwa [show off + 1 + j = off + (j + 1) by omega] at this
theorem cl_app {M : Mem} {id off : Nat} {xs ys : List Value} : Cl M id off (xs ++ ys) ↔ Cl M id off xs ∧ Cl M id (off + xs.length) ys := by
  induction xs generalizing off with
  | nil => simp
  | cons x xs ih => rw [List.cons_append, cl_cons, cl_cons, ih, and_assoc, List.length_cons, show off + 1 + xs.length = off + (xs.length + 1) by omega]
/-- What a value is in memory, its rows' ids from lo up to hi. -/
structure RecP (α : Type) (k : Nat) where
  rd : Nat → Nat → Mem → α → List Value → Prop
  len : ∀ {lo hi M a vs}, rd lo hi M a vs → vs.length = k
  agree : ∀ {lo hi M M' a vs}, rd lo hi M a vs → Agree lo hi M M' → rd lo hi M' a vs
  wide : ∀ {lo hi lo' hi' M a vs}, rd lo hi M a vs → lo' ≤ lo → hi ≤ hi' → rd lo' hi' M a vs
section
variable {α : Type} {k : Nat}
theorem RecP.keeps (P : RecP α k) {lo hi : Nat} {M M' : Mem} {a : α} {vs : List Value} (h : P.rd lo hi M a vs) (hk : Keeps M M') : P.rd lo hi M' a vs := P.agree h hk.agree
theorem RecP.app (P : RecP α k) {lo hi : Nat} {M : Mem} {a : α} {vs : List Value} (h : P.rd lo hi M a vs) (L : Mem) : P.rd lo hi (M ++ L) a vs := P.agree h (Agree.app L)
theorem RecP.up (P : RecP α k) {lo : Nat} {M : Mem} {a : α} {vs : List Value} (h : P.rd lo M.length M a vs) (L : Mem) : P.rd lo (M ++ L).length (M ++ L) a vs := P.wide (P.app h L) (Nat.le_refl _) (by simp)
def RecP.flat (R : RecV α k) : RecP α k where
  rd := fun _ _ _ a vs => vs = R.row a
  len := fun h => by rw [h, R.len]
  agree := fun h _ => h
  wide := fun h _ _ => h
abbrev intP : RecP Int 1 := .flat intR
/-- The slice .slice A n c reads as the values l. -/
def SlP (P : RecP α k) [Inhabited α] (lo hi : Nat) (M : Mem) (A : Option Addr) (n : Nat) (l : List α) : Prop :=
  l.length = n ∧ (0 < n → ∃ id off, A = some ⟨id, off, none⟩ ∧ lo ≤ id ∧ id < hi ∧ rowEsz M id = some k ∧ ∀ i, i < n → ∃ us, P.rd lo hi M (el l i) us ∧ Cl M id (off + i * k) us)
variable [Inhabited α] {P : RecP α k} {lo hi lo' hi' : Nat} {M M' : Mem} {A : Option Addr} {n : Nat} {l : List α}
theorem SlP.agree (h : SlP P lo hi M A n l) (hg : Agree lo hi M M') : SlP P lo hi M' A n l := ⟨h.1, fun hn => by
  obtain ⟨id, off, e, h1, h2, h3, h4⟩ := h.2 hn
  refine ⟨id, off, e, h1, h2, hg.esz h1 h2 h3, fun i hi => ?_⟩
  obtain ⟨us, a, b⟩ := h4 i hi
  exact ⟨us, P.agree a hg, hg.cl h1 h2 b⟩⟩
theorem SlP.wide (h : SlP P lo hi M A n l) (w1 : lo' ≤ lo) (w2 : hi ≤ hi') : SlP P lo' hi' M A n l := ⟨h.1, fun hn => by
  obtain ⟨id, off, e, h1, h2, h3, h4⟩ := h.2 hn
  refine ⟨id, off, e, by omega, by omega, h3, fun i hi => ?_⟩
  obtain ⟨us, a, b⟩ := h4 i hi
  exact ⟨us, P.wide a w1 w2, b⟩⟩
theorem SlP.keeps (h : SlP P lo hi M A n l) (hk : Keeps M M') : SlP P lo hi M' A n l := h.agree hk.agree
theorem SlP.app (h : SlP P lo hi M A n l) (L : Mem) : SlP P lo hi (M ++ L) A n l := h.agree (Agree.app L)
theorem SlP.at_ (h : SlP P lo hi M A n l) {i : Nat} (hi' : i < n) : ∃ id off us, A = some ⟨id, off, none⟩ ∧ rowEsz M id = some k ∧ P.rd lo hi M (el l i) us ∧ Cl M id (off + i * k) us := by
  obtain ⟨id, off, e, h1, h2, h3, h4⟩ := h.2 (by omega)
  obtain ⟨us, a, b⟩ := h4 i hi'
  exact ⟨id, off, us, e, h3, a, b⟩
theorem SlP.sl {R : RecV α k} (h : SlP (.flat R) lo hi M A n l) : Sl R M A n l := ⟨h.1, fun hn => by
  obtain ⟨id, off, e, h1, h2, h3, h4⟩ := h.2 hn
  refine ⟨id, off, e, h3, fun j x hx => ?_⟩
  have hj : j < l.length * k := by have := (List.getElem?_eq_some_iff.1 hx).1; rwa [cellsL_len] at this
  have hk : 0 < k := by
    rcases Nat.eq_zero_or_pos k with h0 | h0
    · subst h0; simp at hj
    · exact h0
  have hi' : j / k < l.length := Nat.div_lt_of_lt_mul (by rwa [Nat.mul_comm])
  obtain ⟨us, rfl, hc⟩ := h4 (j / k) (by rw [← h.1]; exact hi')
  have e : j = j / k * k + j % k := (by rw [Nat.mul_comm]; exact (Nat.div_add_mod j k).symm)
  rw [e, cellsL_get R hi' (Nat.mod_lt _ hk)] at hx
  have := hc (j % k) x hx
  rwa [show off + j / k * k + j % k = off + j by omega] at this⟩
theorem SlP.of_sl {R : RecV α k} (h : Sl R M A n l) (hr : ∀ a, A = some a → 0 < n → lo ≤ a.block ∧ a.block < hi) : SlP (.flat R) lo hi M A n l := ⟨h.1, fun hn => by
  obtain ⟨id, off, e, he, hc⟩ := h.2 hn
  obtain ⟨r1, r2⟩ := hr _ e hn
  refine ⟨id, off, e, r1, r2, he, fun i hi => ⟨_, rfl, fun j x hx => ?_⟩⟩
  have hj : j < k := by have := (List.getElem?_eq_some_iff.1 hx).1; rwa [R.len] at this
  rw [Nat.add_assoc]
  exact hc _ _ (by rw [cellsL_get R (by rw [h.1]; exact hi) hj]; exact hx)⟩
/-- A value that is a slice of such values. -/
def SlV (P : RecP α k) (lo hi : Nat) (M : Mem) (u : Value) (l : List α) : Prop := ∃ A n c, u = .slice A n c ∧ n ≤ 9223372036854775807 ∧ (A = none → c = 0) ∧ SlP P lo hi M A n l
theorem SlV.agree {u : Value} (h : SlV P lo hi M u l) (hg : Agree lo hi M M') : SlV P lo hi M' u l := by
  obtain ⟨A, n, c, h1, h2, h3, h4⟩ := h
  exact ⟨A, n, c, h1, h2, h3, h4.agree hg⟩
theorem SlV.keeps {u : Value} (h : SlV P lo hi M u l) (hk : Keeps M M') : SlV P lo hi M' u l := h.agree hk.agree
theorem SlV.app {u : Value} (h : SlV P lo hi M u l) (L : Mem) : SlV P lo hi (M ++ L) u l := h.agree (Agree.app L)
theorem SlV.wide {u : Value} (h : SlV P lo hi M u l) (w1 : lo' ≤ lo) (w2 : hi ≤ hi') : SlV P lo' hi' M u l := by
  obtain ⟨A, n, c, h1, h2, h3, h4⟩ := h
  exact ⟨A, n, c, h1, h2, h3, h4.wide w1 w2⟩
theorem SlV.up {u : Value} (h : SlV P lo M.length M u l) (L : Mem) : SlV P lo (M ++ L).length (M ++ L) u l := (h.app L).wide (Nat.le_refl _) (by simp)
theorem SlV.nil : SlV P lo hi M (.slice none 0 0) [] := ⟨none, 0, 0, rfl, by omega, fun _ => rfl, rfl, fun h => by omega⟩
theorem SlV.one {u : Value} (h : SlV P lo hi M u l) : oneV u = true := by
  obtain ⟨A, n, c, rfl, _⟩ := h
  rfl
def RecP.sl (P : RecP α k) : RecP (List α) 1 where
  rd := fun lo hi M l vs => ∃ u, vs = [u] ∧ SlV P lo hi M u l
  len := fun ⟨u, h, _⟩ => by rw [h]; rfl
  agree := fun ⟨u, h1, h2⟩ hg => ⟨u, h1, h2.agree hg⟩
  wide := fun ⟨u, h1, h2⟩ a b => ⟨u, h1, h2.wide a b⟩
theorem OwL.slv {R : RecV α k} {v : Value} (h : OwL R lo hi M v l) (hc : ∀ n c, v = .slice none n c → c = 0) : SlV (.flat R) lo hi M v l := by
  obtain ⟨A, n, c, rfl, h2, h3, h4, _⟩ := h
  exact ⟨A, n, c, rfl, by omega, fun e => hc n c (by rw [e]), SlP.of_sl h3 h4⟩
theorem Acc.slv {R : RecV α k} {e : TypeId} {B : Nat} {v : Value} (h : Acc R e B M v l) (hn : l.length ≤ 9223372036854775807) : SlV (.flat R) B M.length M v l := by
  obtain ⟨A, n, c, rfl, hl, hA⟩ := h
  rcases hA with ⟨rfl, rfl, rfl⟩ | ⟨id, t, rfl, hid, hr⟩
  · exact ⟨none, 0, 0, rfl, by omega, fun _ => rfl, hl, fun h => by omega⟩
  · refine ⟨_, n, c, rfl, by omega, (fun h => by cases h), SlP.of_sl ⟨hl, fun _ => ⟨id, 0, rfl, by simp [rowEsz, hr], fun j x hx => by simp [cellAt, hr, hx]⟩⟩ fun a e _ => ?_⟩
    injection e with e
    subst e
    exact ⟨hid, (List.getElem?_eq_some_iff.1 hr).1⟩
end
/-- Two values side by side. -/
def RecP.cat {α β : Type} {k m : Nat} (P : RecP α k) (Q : RecP β m) : RecP (α × β) (k + m) where
  rd := fun lo hi M a vs => ∃ us ws, vs = us ++ ws ∧ P.rd lo hi M a.1 us ∧ Q.rd lo hi M a.2 ws
  len := fun ⟨us, ws, h, h1, h2⟩ => by rw [h, List.length_append, P.len h1, Q.len h2]
  agree := fun ⟨us, ws, h, h1, h2⟩ hg => ⟨us, ws, h, P.agree h1 hg, Q.agree h2 hg⟩
  wide := fun ⟨us, ws, h, h1, h2⟩ a b => ⟨us, ws, h, P.wide h1 a b, Q.wide h2 a b⟩
def RecP.unit : RecP Unit 0 where
  rd := fun _ _ _ _ vs => vs = []
  len := fun h => by rw [h]; rfl
  agree := fun h _ => h
  wide := fun h _ _ => h
def RecP.map {α β : Type} {k : Nat} (f : β → α) (P : RecP α k) : RecP β k where
  rd := fun lo hi M a vs => P.rd lo hi M (f a) vs
  len := fun h => P.len h
  agree := fun h hg => P.agree h hg
  wide := fun h a b => P.wide h a b
end Go.Proofs.Ytffbocbjmhkikaa
