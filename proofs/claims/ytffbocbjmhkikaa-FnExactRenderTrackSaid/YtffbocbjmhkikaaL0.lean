/- Lists of records in memory, over abstract states; numbers within bounds. No conditions. -/
import Derived.Test.YtffbocbjmhkikaaFacts
import Derived.IntWalk
namespace Go.Proofs.Ytffbocbjmhkikaa
open Go.RowKit
set_option linter.unusedVariables false
set_option linter.unusedSimpArgs false
set_option maxRecDepth 100000
attribute [local simp] List.getElem?_cons_zero
attribute [local irreducible] awCond awCall awLoop awDraw ow retQ retC resQ Keeps

abbrev iv (n : Int) : Value := .int .i64 n
/-- A record of k cells. -/
structure RecV (α : Type) (k : Nat) where
  row : α → List Value
  len : ∀ a, (row a).length = k
def el {α : Type} [Inhabited α] (l : List α) (i : Nat) : α := l.getD i default
section
variable {α : Type} {k : Nat}
theorem el_eq [Inhabited α] {l : List α} {i : Nat} (h : i < l.length) : l[i] = el l i := by simp [el, h]
theorem el_some [Inhabited α] {l : List α} {i : Nat} (h : i < l.length) : l[i]? = some (el l i) := by rw [List.getElem?_eq_getElem h, el_eq h]
theorem take_el [Inhabited α] {l : List α} {i : Nat} (h : i < l.length) : l.take (i + 1) = l.take i ++ [el l i] := by
  rw [List.take_succ_eq_append_getElem h, el_eq]
theorem drop_el [Inhabited α] {l : List α} {i : Nat} (h : i < l.length) : l.drop i = el l i :: l.drop (i + 1) := by
  rw [List.drop_eq_getElem_cons h, el_eq]
theorem el_append_left [Inhabited α] {l m : List α} {i : Nat} (h : i < l.length) : el (l ++ m) i = el l i := by
  unfold el; simp only [List.getD_eq_getElem?_getD]; rw [List.getElem?_append_left h]
theorem el_append_right [Inhabited α] {l m : List α} {i : Nat} (h : l.length ≤ i) : el (l ++ m) i = el m (i - l.length) := by
  unfold el; simp only [List.getD_eq_getElem?_getD]; rw [List.getElem?_append_right h]
theorem el_mem [Inhabited α] {l : List α} {i : Nat} (h : i < l.length) : el l i ∈ l := by rw [← el_eq h]; exact List.getElem_mem h
def cellsL (R : RecV α k) (l : List α) : List Value := l.flatMap R.row
theorem cellsL_len (R : RecV α k) (l : List α) : (cellsL R l).length = l.length * k := by
  unfold cellsL
  induction l with
  | nil => simp
  | cons a l ih => rw [List.flatMap_cons, List.length_append, ih, R.len, List.length_cons, Nat.add_mul]; omega
theorem cellsL_nil (R : RecV α k) : cellsL R [] = [] := rfl
theorem cellsL_cons (R : RecV α k) (a : α) (l : List α) : cellsL R (a :: l) = R.row a ++ cellsL R l := by simp [cellsL]
theorem cellsL_append (R : RecV α k) (l m : List α) : cellsL R (l ++ m) = cellsL R l ++ cellsL R m := by simp [cellsL]
theorem cellsL_snoc (R : RecV α k) (l : List α) (a : α) : cellsL R (l ++ [a]) = cellsL R l ++ R.row a := by simp [cellsL]
theorem cellsL_take (R : RecV α k) : ∀ (l : List α) (n : Nat), cellsL R (l.take n) = (cellsL R l).take (n * k)
  | [], n => by simp [cellsL]
  | a :: l, 0 => by simp [cellsL]
  | a :: l, n + 1 => by
    rw [List.take_succ_cons, cellsL_cons, cellsL_cons, cellsL_take R l n, List.take_append, R.len, Nat.add_mul, Nat.one_mul, List.take_of_length_le (l := R.row a) (by rw [R.len]; omega), show n * k + k - k = n * k by omega]
theorem cellsL_drop (R : RecV α k) : ∀ (l : List α) (n : Nat), cellsL R (l.drop n) = (cellsL R l).drop (n * k)
  | [], n => by simp [cellsL]
  | a :: l, 0 => by simp
  | a :: l, n + 1 => by
    rw [List.drop_succ_cons, cellsL_cons, cellsL_drop R l n, List.drop_append, R.len, Nat.add_mul, Nat.one_mul, List.drop_of_length_le (l := R.row a) (by rw [R.len]; omega), show n * k + k - k = n * k by omega, List.nil_append]
theorem cellsL_get [Inhabited α] (R : RecV α k) {l : List α} {i j : Nat} (hi : i < l.length) (hj : j < k) : (cellsL R l)[i * k + j]? = (R.row (el l i))[j]? := by
  have h1 : l = l.take i ++ (el l i :: l.drop (i + 1)) := by
    conv => lhs; rw [← List.take_append_drop i l, drop_el hi]
  have h2 : cellsL R l = cellsL R (l.take i) ++ (R.row (el l i) ++ cellsL R (l.drop (i + 1))) := by
    conv => lhs; rw [h1]
    rw [cellsL_append, cellsL_cons]
  rw [h2]
  have hl : (cellsL R (l.take i)).length = i * k := by rw [cellsL_len, List.length_take, Nat.min_eq_left (by omega)]
  rw [List.getElem?_append_right (by omega), hl, List.getElem?_append_left (by rw [R.len]; omega)]
  congr 1
  omega
theorem cellsL_zrow (R : RecV α k) (a : α) : ∀ n, zrow (R.row a) n = cellsL R (List.replicate n a)
  | 0 => rfl
  | n + 1 => by rw [zrow_succ, List.replicate_succ, cellsL_cons, cellsL_zrow R a n]

/-- Cells that lie behind a place. -/
def Cl (M : Mem) (id off : Nat) (xs : List Value) : Prop := ∀ (j : Nat) x, xs[j]? = some x → cellAt M id (off + j) = some x
theorem Cl.app {M : Mem} {id off : Nat} {xs : List Value} (h : Cl M id off xs) (L : Mem) : Cl (M ++ L) id off xs := fun j x hx => cellAt_app (h j x hx) L
theorem cellAt_keeps {M M' : Mem} {id off : Nat} {v : Value} (hk : Keeps M M') (h : cellAt M id off = some v) : cellAt M' id off = some v := by
  unfold cellAt at h ⊢
  cases hm : M[id]? with
  | none => rw [hm] at h; cases h
  | some s => rw [hk.get hm]; rw [hm] at h; exact h
theorem Cl.keeps {M M' : Mem} {id off : Nat} {xs : List Value} (h : Cl M id off xs) (hk : Keeps M M') : Cl M' id off xs := fun j x hx => cellAt_keeps hk (h j x hx)
theorem cellsAt_of {M : Mem} {id off n : Nat} {xs : List Value} (h : Cl M id off xs) (hl : xs.length = n) (h0 : 0 < n) : cellsAt M id off n = some xs := by
  have hx0 : xs[0]? = some xs[0] := List.getElem?_eq_getElem (by omega)
  have h1 := h 0 _ hx0
  unfold cellAt at h1
  unfold cellsAt
  cases hm : M[id]? with
  | none => rw [hm] at h1; cases h1
  | some s =>
    cases s with
    | live r =>
      have at_ : ∀ (j : Nat) x, xs[j]? = some x → r.cells[off + j]? = some x := fun j x hx => by
        have := h j x hx
        unfold cellAt at this
        rw [hm] at this
        exact this
      have hle : off + n ≤ r.cells.length := by
        have hl1 : xs[n - 1]? = some (xs[n - 1]'(by omega)) := List.getElem?_eq_getElem (by omega)
        have := (List.getElem?_eq_some_iff.1 (at_ _ _ hl1)).1
        omega
      simp only
      rw [if_pos hle]
      congr 1
      apply List.ext_getElem?
      intro j
      by_cases hj : j < n
      · rw [List.getElem?_take, if_pos hj, List.getElem?_drop]
        have hxj : xs[j]? = some (xs[j]'(by omega)) := List.getElem?_eq_getElem (by omega)
        rw [at_ j _ hxj, hxj]
      · rw [List.getElem?_take, if_neg hj, List.getElem?_eq_none (by omega)]
    | dead => rw [hm] at h1; cases h1
    | hole => rw [hm] at h1; cases h1

/-- The slice .slice A n c reads in M as the records l. -/
def Sl (R : RecV α k) (M : Mem) (A : Option Addr) (n : Nat) (l : List α) : Prop :=
  l.length = n ∧ (0 < n → ∃ id off, A = some ⟨id, off, none⟩ ∧ rowEsz M id = some k ∧ Cl M id off (cellsL R l))
theorem Sl.at_ [Inhabited α] {R : RecV α k} {M : Mem} {A : Option Addr} {n : Nat} {l : List α} (h : Sl R M A n l) {i : Nat} (hi : i < n) :
    ∃ id off, A = some ⟨id, off, none⟩ ∧ rowEsz M id = some k ∧ Cl M id (off + i * k) (R.row (el l i)) := by
  obtain ⟨id, off, e, he, hc⟩ := h.2 (by omega)
  refine ⟨id, off, e, he, fun j x hx => ?_⟩
  have hj : j < k := by have := (List.getElem?_eq_some_iff.1 hx).1; rwa [R.len] at this
  rw [Nat.add_assoc]
  exact hc _ _ (by rw [cellsL_get R (by rw [h.1]; exact hi) hj]; exact hx)
theorem rowEsz_keeps {M M' : Mem} {id k : Nat} (hk : Keeps M M') (h : rowEsz M id = some k) : rowEsz M' id = some k := by
  unfold rowEsz at h ⊢
  cases hm : M[id]? with
  | none => rw [hm] at h; cases h
  | some s => rw [hk.get hm]; rw [hm] at h; exact h
theorem Sl.keeps {R : RecV α k} {M M' : Mem} {A : Option Addr} {n : Nat} {l : List α} (h : Sl R M A n l) (hk : Keeps M M') : Sl R M' A n l :=
  ⟨h.1, fun hn => by
    obtain ⟨id, off, e, he, hc⟩ := h.2 hn
    exact ⟨id, off, e, rowEsz_keeps hk he, hc.keeps hk⟩⟩
theorem Sl.app {R : RecV α k} {M : Mem} {A : Option Addr} {n : Nat} {l : List α} (h : Sl R M A n l) (L : Mem) : Sl R (M ++ L) A n l := h.keeps (keeps_app L)
theorem splice_app : ∀ (ws xs ys : List Value), ws.length ≤ ys.length → splice (xs ++ ys) xs.length ws = xs ++ (ws ++ ys.drop ws.length)
  | [], xs, ys, _ => by simp
  | w :: ws, xs, [], h => by simp at h
  | w :: ws, xs, y :: ys, h => by
    rw [splice_cons]
    have e : (xs ++ y :: ys).set xs.length w = (xs ++ [w]) ++ ys := by simp [List.set_append_right]
    have := splice_app ws (xs ++ [w]) ys (by simpa using h)
    rw [e, show xs.length + 1 = (xs ++ [w]).length by simp, this]
    simp
theorem splice_rec (R : RecV α k) {xs : List α} {m : Nat} {z : List Value} {a : α} (hz : z.length = k) : splice (cellsL R xs ++ zrow z (m + 1)) (xs.length * k) (R.row a) = cellsL R (xs ++ [a]) ++ zrow z m := by
  rw [← cellsL_len R xs, splice_app _ _ _ (by rw [R.len, zrow_succ, List.length_append]; omega), R.len, zrow_succ, List.drop_append_of_le_length (by omega), List.drop_of_length_le (by omega), cellsL_snoc]
  simp
theorem all_oneV_of {vs : List Value} (h : ∀ v ∈ vs, oneV v = true) : vs.all oneV = true := List.all_eq_true.2 h
theorem putCells_rec (R : RecV α k) {b : Nat} {M : Mem} {xs : List α} {m i : Nat} {z : List Value} {a : α} {t : Bool} {e : TypeId} (hb : b ≤ M.length) (hz : z.length = k) (hi : xs.length = i) (h1 : (R.row a).all oneV = true) :
    putCells b (M ++ [.live ⟨cellsL R xs ++ zrow z (m + 1), true, t, e, k⟩]) M.length (i * k) (R.row a) = some (M ++ [.live ⟨cellsL R (xs ++ [a]) ++ zrow z m, true, t, e, k⟩]) := by
  subst hi
  rw [putCells_new0 hb, putL_zero, splice_rec R hz, if_pos ⟨rfl, by simp only [List.length_append, cellsL_len, R.len, zrow_succ]; omega, h1⟩]
  rfl
theorem Sl.new {R : RecV α k} {M : Mem} {l : List α} {o t : Bool} {e : TypeId} {n : Nat} (hn : l.length = n) : Sl R (M ++ [.live ⟨cellsL R l, o, t, e, k⟩]) (some ⟨M.length, 0, none⟩) n l :=
  ⟨hn, fun _ => ⟨M.length, 0, rfl, by simp [rowEsz], fun j x hx => by simp [cellAt, hx]⟩⟩
def Ownd (M : Mem) (A : Option Addr) (n : Nat) : Prop := 0 < n → ∃ id off r, A = some ⟨id, off, none⟩ ∧ M[id]? = some (.live r) ∧ r.own = true
/-- A result that lies in new memory. -/
def Fresh (R : RecV α k) (M : Mem) (v : Value) (M' : Mem) (l : List α) : Prop :=
  ∃ A n c, v = .slice A n c ∧ n ≤ 1099511627776 ∧ Sl R M' A n l ∧ (∀ a, A = some a → M.length ≤ a.block) ∧ Ownd M' A n ∧ Keeps M M'
theorem Fresh.new {R : RecV α k} {M : Mem} {l : List α} {t : Bool} {e : TypeId} {n c : Nat} (hn : l.length = n) (hb : n ≤ 1099511627776) : Fresh R M (.slice (some ⟨M.length, 0, none⟩) n c) (M ++ [.live ⟨cellsL R l, true, t, e, k⟩]) l :=
  ⟨_, _, _, rfl, hb, Sl.new hn, fun a h => by injection h with h; subst h; exact Nat.le_refl _, fun _ => ⟨_, _, _, rfl, getElem?_snoc_eq, rfl⟩, keeps_app _⟩
theorem Sl.lt {R : RecV α k} {M : Mem} {A : Option Addr} {n : Nat} {l : List α} (h : Sl R M A n l) (hn : 0 < n) : ∃ a, A = some a ∧ a.block < M.length := by
  obtain ⟨id, off, e, he, _⟩ := h.2 hn
  refine ⟨_, e, ?_⟩
  unfold rowEsz at he
  cases hm : M[id]? with
  | none => rw [hm] at he; cases he
  | some s => exact (List.getElem?_eq_some_iff.1 hm).1
theorem Keeps.len {M M' : Mem} (h : Keeps M M') : M.length ≤ M'.length := by
  rcases Nat.eq_zero_or_pos M.length with h0 | h0
  · omega
  · have := h.get (List.getElem?_eq_getElem (show M.length - 1 < M.length by omega))
    have := (List.getElem?_eq_some_iff.1 this).1
    omega
/-- Only the row of A may have turned. -/
def Turned (A : Option Addr) (n : Nat) (M M' : Mem) : Prop := M'.length = M.length ∧ ∀ (i : Nat) s, M[i]? = some s → (∀ a, A = some a → 0 < n → i ≠ a.block) → M'[i]? = some s
theorem Turned.keeps {M0 M M' : Mem} {A : Option Addr} {n : Nat} (h : Turned A n M M') (hk : Keeps M0 M) (ha : ∀ a, A = some a → M0.length ≤ a.block) : Keeps M0 M' := by
  unfold Keeps
  exact fun i s hs => h.2 i s (hk.get hs) fun a e _ => by have := ha a e; have := (List.getElem?_eq_some_iff.1 hs).1; omega
theorem Sl.turn {R : RecV α k} {M M' : Mem} {A B : Option Addr} {n m : Nat} {l : List α} (h : Sl R M B m l) (ht : Turned A n M M') (hd : ∀ a b, A = some a → B = some b → 0 < n → 0 < m → b.block ≠ a.block) : Sl R M' B m l := by
  refine ⟨h.1, fun hm => ?_⟩
  obtain ⟨id, off, e, he, hc⟩ := h.2 hm
  have hi : M'[id]? = M[id]? := by
    cases hs : M[id]? with
    | none => unfold rowEsz at he; rw [hs] at he; cases he
    | some s => exact ht.2 id s hs fun a ea hn => hd a _ ea e hn hm
  refine ⟨id, off, e, by unfold rowEsz at he ⊢; rw [hi]; exact he, fun j x hx => ?_⟩
  have := hc j x hx
  unfold cellAt at this ⊢
  rw [hi]; exact this
theorem Ownd.turn {M M' : Mem} {A B : Option Addr} {n m : Nat} (h : Ownd M B m) (ht : Turned A n M M') (hd : ∀ a b, A = some a → B = some b → 0 < n → 0 < m → b.block ≠ a.block) : Ownd M' B m := fun hm => by
  obtain ⟨id, off, r, e, hr, ho⟩ := h hm
  exact ⟨id, off, r, e, ht.2 id _ hr fun a ea hn => hd a _ ea e hn hm, ho⟩
theorem Ownd.keeps {M M' : Mem} {A : Option Addr} {n : Nat} (h : Ownd M A n) (hk : Keeps M M') : Ownd M' A n := fun hn => by
  obtain ⟨id, off, r, e, hr, ho⟩ := h hn
  exact ⟨id, off, r, e, hk.get hr, ho⟩
theorem Sl.cells {R : RecV α k} {M : Mem} {id off n : Nat} {l : List α} {r : Row} (h : Sl R M (some ⟨id, off, none⟩) n l) (hr : M[id]? = some (.live r)) (hn : 0 < n) (hk : 0 < k) : r.esz = k ∧ off + n * k ≤ r.cells.length := by
  obtain ⟨_, _, e, he, hc⟩ := h.2 hn
  injection e with e
  injection e with e1 e2
  subst e1; subst e2
  refine ⟨by unfold rowEsz at he; rw [hr] at he; simpa using he, ?_⟩
  have hnk : 0 < n * k := Nat.mul_pos hn hk
  have hl : (cellsL R l).length = n * k := by rw [cellsL_len, h.1]
  have hx : (cellsL R l)[n * k - 1]? = some ((cellsL R l)[n * k - 1]'(by omega)) := List.getElem?_eq_getElem (by omega)
  have := hc _ _ hx
  unfold cellAt at this
  rw [hr] at this
  have := (List.getElem?_eq_some_iff.1 this).1
  omega
theorem put_set {b : Nat} {M : Mem} {id p : Nat} {v : Value} {cs : List Value} {t : Bool} {e : TypeId} {z : Nat} (hid : id < M.length) (hb : b ≤ id) (hp : p < cs.length) (h1 : oneV v = true) :
    putCells b (M.set id (.live ⟨cs, true, t, e, z⟩)) id p [v] = some (M.set id (.live ⟨cs.set p v, true, t, e, z⟩)) := by
  unfold putCells
  rw [List.getElem?_set_self hid]
  simp only
  rw [if_pos (by simp [hb, h1]; omega)]
  simp [splice]
theorem rowEsz_set {M : Mem} {id : Nat} {r : Row} (hid : id < M.length) : rowEsz (M.set id (.live r)) id = some r.esz := by simp [rowEsz, List.getElem?_set_self hid]
theorem splice_mid (R : RecV α k) {cs : List Value} {off j : Nat} {l : List α} {a : α} (hl : l.length = j) (h : off + (j + 1) * k ≤ cs.length) :
    splice (cs.take off ++ cellsL R l ++ cs.drop (off + j * k)) (off + j * k) (R.row a) = cs.take off ++ cellsL R (l ++ [a]) ++ cs.drop (off + (j + 1) * k) := by
  rw [Nat.add_mul, Nat.one_mul] at h ⊢
  have e : off + j * k = (cs.take off ++ cellsL R l).length := by rw [List.length_append, cellsL_len, List.length_take, hl]; omega
  conv => lhs; rw [e]
  rw [← e, e, splice_app _ _ _ (by rw [R.len, List.length_drop]; omega), R.len, List.drop_drop, cellsL_snoc, ← e]
  simp [Nat.add_assoc]
theorem set_turned {M : Mem} {id off : Nat} {s : Slot} {n : Nat} (hn : 0 < n) : Turned (some ⟨id, off, none⟩) n M (M.set id s) :=
  ⟨by simp, fun i s hs h => by rw [List.getElem?_set_ne (by have := h _ rfl hn; simpa using this.symm)]; exact hs⟩
theorem Sl.set {R : RecV α k} {M : Mem} {id off n : Nat} {pre post : List Value} {l : List α} {o t : Bool} {e : TypeId} (hid : id < M.length) (hp : pre.length = off) (hl : l.length = n) :
    Sl R (M.set id (.live ⟨pre ++ cellsL R l ++ post, o, t, e, k⟩)) (some ⟨id, off, none⟩) n l :=
  ⟨hl, fun _ => ⟨id, off, rfl, by simp [rowEsz, List.getElem?_set_self hid], fun j x hx => by
    simp only [cellAt, List.getElem?_set_self hid]
    rw [List.append_assoc, List.getElem?_append_right (by omega), hp, show off + j - off = j by omega, List.getElem?_append_left (List.getElem?_eq_some_iff.1 hx).1]
    exact hx⟩⟩
/-- A slice value that reads as records, its row's id from lo up to hi. -/
def RdL (R : RecV α k) (lo hi : Nat) (M : Mem) (v : Value) (l : List α) : Prop :=
  ∃ A n c, v = .slice A n c ∧ n ≤ 9223372036854775807 ∧ Sl R M A n l ∧ (∀ a, A = some a → 0 < n → lo ≤ a.block ∧ a.block < hi)
/-- It may be written. -/
def OwL (R : RecV α k) (lo hi : Nat) (M : Mem) (v : Value) (l : List α) : Prop :=
  ∃ A n c, v = .slice A n c ∧ n ≤ 1099511627776 ∧ Sl R M A n l ∧ (∀ a, A = some a → 0 < n → lo ≤ a.block ∧ a.block < hi) ∧ Ownd M A n
/-- Only rows with ids from lo up to hi may have turned. -/
def Turn (lo hi : Nat) (M M' : Mem) : Prop := M.length ≤ M'.length ∧ ∀ (i : Nat) s, M[i]? = some s → (i < lo ∨ hi ≤ i) → M'[i]? = some s
theorem OwL.rd {R : RecV α k} {lo hi : Nat} {M : Mem} {v : Value} {l : List α} (h : OwL R lo hi M v l) : RdL R lo hi M v l := by
  obtain ⟨A, n, c, h1, h2, h3, h4, _⟩ := h
  exact ⟨A, n, c, h1, by omega, h3, h4⟩
theorem RdL.keeps {R : RecV α k} {lo hi : Nat} {M M' : Mem} {v : Value} {l : List α} (h : RdL R lo hi M v l) (hk : Keeps M M') : RdL R lo hi M' v l := by
  obtain ⟨A, n, c, h1, h2, h3, h4⟩ := h
  exact ⟨A, n, c, h1, h2, h3.keeps hk, h4⟩
theorem OwL.keeps {R : RecV α k} {lo hi : Nat} {M M' : Mem} {v : Value} {l : List α} (h : OwL R lo hi M v l) (hk : Keeps M M') : OwL R lo hi M' v l := by
  obtain ⟨A, n, c, h1, h2, h3, h4, h5⟩ := h
  exact ⟨A, n, c, h1, h2, h3.keeps hk, h4, h5.keeps hk⟩
theorem Sl.turn' {R : RecV α k} {M M' : Mem} {B : Option Addr} {m lo hi : Nat} {l : List α} (h : Sl R M B m l) (ht : Turn lo hi M M') (hd : ∀ b, B = some b → 0 < m → b.block < lo ∨ hi ≤ b.block) : Sl R M' B m l := by
  refine ⟨h.1, fun hm => ?_⟩
  obtain ⟨id, off, e, he, hc⟩ := h.2 hm
  have hi' : M'[id]? = M[id]? := by
    cases hs : M[id]? with
    | none => unfold rowEsz at he; rw [hs] at he; cases he
    | some s => exact ht.2 id s hs (hd _ e hm)
  refine ⟨id, off, e, by unfold rowEsz at he ⊢; rw [hi']; exact he, fun j x hx => ?_⟩
  have := hc j x hx
  unfold cellAt at this ⊢
  rw [hi']; exact this
theorem Ownd.turn' {M M' : Mem} {B : Option Addr} {m lo hi : Nat} (h : Ownd M B m) (ht : Turn lo hi M M') (hd : ∀ b, B = some b → 0 < m → b.block < lo ∨ hi ≤ b.block) : Ownd M' B m := fun hm => by
  obtain ⟨id, off, r, e, hr, ho⟩ := h hm
  exact ⟨id, off, r, e, ht.2 id _ hr (hd _ e hm), ho⟩
theorem RdL.turn {R : RecV α k} {lo hi lo' hi' : Nat} {M M' : Mem} {v : Value} {l : List α} (h : RdL R lo hi M v l) (ht : Turn lo' hi' M M') (hd : hi ≤ lo' ∨ hi' ≤ lo) : RdL R lo hi M' v l := by
  obtain ⟨A, n, c, h1, h2, h3, h4⟩ := h
  exact ⟨A, n, c, h1, h2, h3.turn' ht fun b e hm => by have := h4 b e hm; omega, h4⟩
theorem OwL.turn {R : RecV α k} {lo hi lo' hi' : Nat} {M M' : Mem} {v : Value} {l : List α} (h : OwL R lo hi M v l) (ht : Turn lo' hi' M M') (hd : hi ≤ lo' ∨ hi' ≤ lo) : OwL R lo hi M' v l := by
  obtain ⟨A, n, c, h1, h2, h3, h4, h5⟩ := h
  exact ⟨A, n, c, h1, h2, h3.turn' ht fun b e hm => (by have := h4 b e hm; omega), h4, h5.turn' ht fun b e hm => (by have := h4 b e hm; omega)⟩
theorem Turn.keeps {M0 M M' : Mem} {lo hi : Nat} (h : Turn lo hi M M') (hk : Keeps M0 M) (ha : M0.length ≤ lo) : Keeps M0 M' := by
  unfold Keeps
  exact fun i s hs => h.2 i s (hk.get hs) (.inl (by have := (List.getElem?_eq_some_iff.1 hs).1; omega))
theorem RdL.of_sl {R : RecV α k} {M : Mem} {B : Option Addr} {n : Nat} {l : List α} (hn : n ≤ maxLen) (hs : Sl R M B n l) (c : Nat) : RdL R 0 M.length M (.slice B n c) l :=
  ⟨B, n, c, rfl, by unfold maxLen at hn; omega, hs, fun a e hp => ⟨Nat.zero_le _, by obtain ⟨a', e', h⟩ := hs.lt hp; rw [e] at e'; injection e' with e'; subst e'; exact h⟩⟩
theorem RdL.up {R : RecV α k} {lo : Nat} {M : Mem} {v : Value} {l : List α} (h : RdL R lo M.length M v l) (L : Mem) : RdL R lo (M ++ L).length (M ++ L) v l := by
  obtain ⟨A, n, c, h1, h2, h3, h4⟩ := h
  exact ⟨A, n, c, h1, h2, h3.app L, fun a e hp => by have := h4 a e hp; simp; omega⟩
theorem Fresh.ow {R : RecV α k} {M M' : Mem} {v : Value} {l : List α} (h : Fresh R M v M' l) : OwL R M.length M'.length M' v l ∧ Keeps M M' := by
  obtain ⟨A, n, c, h1, h2, h3, h4, h5, h6⟩ := h
  exact ⟨⟨A, n, c, h1, h2, h3, fun a e hn => ⟨h4 a e, by obtain ⟨a', e', h⟩ := h3.lt hn; rw [e] at e'; injection e' with e'; subst e'; exact h⟩, h5⟩, h6⟩
theorem cellsAt_keeps {M M' : Mem} {id off n : Nat} {vs : List Value} (hk : Keeps M M') (h : cellsAt M id off n = some vs) : cellsAt M' id off n = some vs := by
  unfold cellsAt at h ⊢
  cases hm : M[id]? with
  | none => rw [hm] at h; cases h
  | some s => rw [hk.get hm]; rw [hm] at h; exact h
theorem cellsAt_turn {M M' : Mem} {id off n lo hi : Nat} {vs : List Value} (ht : Turn lo hi M M') (hi' : id < lo) (h : cellsAt M id off n = some vs) : cellsAt M' id off n = some vs := by
  unfold cellsAt at h ⊢
  cases hm : M[id]? with
  | none => rw [hm] at h; cases h
  | some s => rw [ht.2 id s hm (.inl hi')]; rw [hm] at h; exact h
theorem cellsAt_turn2 {M M' : Mem} {id off n lo hi : Nat} {vs : List Value} (ht : Turn lo hi M M') (hi' : id < lo ∨ hi ≤ id) (h : cellsAt M id off n = some vs) : cellsAt M' id off n = some vs := by
  unfold cellsAt at h ⊢
  cases hm : M[id]? with
  | none => rw [hm] at h; cases h
  | some s => rw [ht.2 id s hm hi']; rw [hm] at h; exact h
theorem Keeps.split {A B : Mem} (h : Keeps A B) : ∃ C, B = A ++ C := by
  refine ⟨B.drop A.length, ?_⟩
  have hl := h.len
  apply List.ext_getElem?
  intro i
  by_cases hi : i < A.length
  · rw [List.getElem?_append_left hi, h.get (List.getElem?_eq_getElem hi), List.getElem?_eq_getElem hi]
  · rw [List.getElem?_append_right (by omega), List.getElem?_drop, show A.length + (i - A.length) = i by omega]
theorem turn_mid {M A B C : Mem} (h : A.length = B.length) : Turn M.length (M.length + A.length) (M ++ (A ++ C)) (M ++ (B ++ C)) := by
  refine ⟨by simp [h], fun i s hs hd => ?_⟩
  rcases hd with hd | hd
  · rw [List.getElem?_append_left hd] at hs ⊢; exact hs
  · rw [List.getElem?_append_right (by omega), List.getElem?_append_right (by omega)] at hs ⊢
    rw [← h]; exact hs
theorem turn_mid3 {M C : Mem} {a b c a' b' c' : Slot} : Turn M.length (M.length + 3) (M ++ a :: b :: c :: C) (M ++ a' :: b' :: c' :: C) := turn_mid (A := [a, b, c]) (B := [a', b', c']) rfl
theorem OwL.wide {R : RecV α k} {lo hi lo' hi' : Nat} {M : Mem} {v : Value} {l : List α} (h : OwL R lo hi M v l) (h1 : lo' ≤ lo) (h2 : hi ≤ hi') : OwL R lo' hi' M v l := by
  obtain ⟨A, n, c, e1, e2, e3, e4, e5⟩ := h
  exact ⟨A, n, c, e1, e2, e3, fun a e hn => by have := e4 a e hn; omega, e5⟩
theorem OwL.isSlice {R : RecV α k} {lo hi : Nat} {M : Mem} {v : Value} {l : List α} (h : OwL R lo hi M v l) : ∃ A n c, v = .slice A n c := by
  obtain ⟨A, n, c, e1, _⟩ := h
  exact ⟨A, n, c, e1⟩
theorem OwL.one {R : RecV α k} {lo hi : Nat} {M : Mem} {v : Value} {l : List α} (h : OwL R lo hi M v l) : oneV v = true := by
  obtain ⟨A, n, c, rfl⟩ := h.isSlice
  rfl
theorem Turn.app {lo hi : Nat} {M M' L : Mem} (h : Turn lo hi (M ++ L) M') : Turn lo hi M M' :=
  ⟨Nat.le_trans (by simp) h.1, fun i s hs hd => h.2 i s (by rw [List.getElem?_append_left (List.getElem?_eq_some_iff.1 hs).1]; exact hs) hd⟩
end
def fstI {α : Type} (p : α → Bool) (l : List α) : Int := match l.findIdx? p with | some i => (i : Int) | none => -1
theorem fstI_none {α : Type} [Inhabited α] {p : α → Bool} {l : List α} (h : ∀ i, i < l.length → p (el l i) = false) : fstI p l = -1 := by
  unfold fstI
  rw [List.findIdx?_eq_none_iff.2]
  intro x hx
  obtain ⟨i, hi, rfl⟩ := List.getElem_of_mem hx
  have := h i hi
  rw [← el_eq hi] at this
  simpa using this
theorem fstI_some {α : Type} [Inhabited α] {p : α → Bool} {l : List α} {i : Nat} (hi : i < l.length) (hp : p (el l i) = true) (h : ∀ j, j < i → p (el l j) = false) : fstI p l = i := by
  unfold fstI
  rw [List.findIdx?_eq_some_iff_getElem.2 (?_ : ∃ h : i < l.length, p l[i] = true ∧ ∀ j (hj : j < i), ¬ p (l[j]'(Nat.lt_trans hj h)) = true)]
  exact ⟨hi, by rw [el_eq hi]; exact hp, fun j hj => by have := h j hj; rw [← el_eq (by omega)] at this; simpa using this⟩
def intR : RecV Int 1 := ⟨fun n => [iv n], fun _ => rfl⟩
theorem wrap_in {x : Int} (h1 : -9223372036854775808 ≤ x) (h2 : x ≤ 9223372036854775807) : IntKind.i64.wrap x = x := IntWalk.i64_in _ ⟨h1, h2⟩
theorem keeps_set {M M' : Mem} {id : Nat} {s : Slot} (hK : Keeps M M') (h : M.length ≤ id) : Keeps M (M'.set id s) := by
  unfold Keeps
  exact fun i s hs => by rw [List.getElem?_set_ne (by have := (List.getElem?_eq_some_iff.1 hs).1; omega)]; exact hK.get hs
theorem splice_whole {cs vs : List Value} (h : vs.length = cs.length) : splice cs 0 vs = vs := by
  have := splice_app vs [] cs (by omega)
  simpa [h] using this
theorem put_whole {b : Nat} {M : Mem} {id : Nat} {vs cs : List Value} {t : Bool} {e : TypeId} {z : Nat} (hr : M[id]? = some (.live ⟨cs, true, t, e, z⟩)) (hb : b ≤ id) (hl : vs.length = cs.length) (h1 : vs.all oneV = true) :
    putCells b M id 0 vs = some (M.set id (.live ⟨vs, true, t, e, z⟩)) := by
  unfold putCells
  rw [hr]
  simp only
  rw [if_pos ⟨hb, trivial, by omega, h1⟩, splice_whole hl]
theorem str_same (s : ByteArray) : strV .neq s s = some (.bool false) := by
  show some (Value.bool (!(s.toList == s.toList))) = _
  rw [beq_self_eq_true]
  rfl
theorem dec_neg {x : Int} (h : 0 ≤ x) : decide (x < 0) = false := decide_eq_false (by omega)
def inB (n lo hi : Int) : Bool := decide (lo ≤ n) && decide (n ≤ hi)
theorem inB_iff {n lo hi : Int} : inB n lo hi = true ↔ lo ≤ n ∧ n ≤ hi := by simp [inB]
end Go.Proofs.Ytffbocbjmhkikaa
