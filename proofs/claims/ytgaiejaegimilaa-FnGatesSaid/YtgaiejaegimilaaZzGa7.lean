/- Parts of the proof, together: Lists of records in memory, over abstract states; numbers within bounds. Lists that grow by append. The source of choices: a number is drawn. The source of choices, beside lists that grow. A choice among numbers. Boxes beside a source and lists that grow. Words for what draws: growth beside a source, built lists of numbers. Words for what draws: choices among built numbers, rows read and set. Cont No conditions. -/
import Derived.Test.YtgaiejaegimilaaZzGa6
import Derived.IntWalk
namespace Go.Proofs.Ytgaiejaegimilaa
open Go.RowKit
set_option linter.unusedVariables false
set_option linter.unusedSimpArgs false
set_option maxRecDepth 100000
attribute [local simp] List.getElem?_cons_zero
attribute [local irreducible] awCond awCall awLoop awDraw ow retQ retC resQ Keeps

abbrev iv (n : Int) : Value := .int .i64 n
/-- A record of k cells. -/
structure RecV (α : Type) (k : Nat) where
  row : α → List Value
  len : ∀ a, (row a).length = k
def el {α : Type} [Inhabited α] (l : List α) (i : Nat) : α := l.getD i default
section
variable {α : Type} {k : Nat}
theorem el_eq [Inhabited α] {l : List α} {i : Nat} (h : i < l.length) : l[i] = el l i := by simp [el, h]
theorem el_some [Inhabited α] {l : List α} {i : Nat} (h : i < l.length) : l[i]? = some (el l i) := by rw [List.getElem?_eq_getElem h, el_eq h]
theorem take_el [Inhabited α] {l : List α} {i : Nat} (h : i < l.length) : l.take (i + 1) = l.take i ++ [el l i] := by
  rw [List.take_succ_eq_append_getElem h, el_eq]
theorem drop_el [Inhabited α] {l : List α} {i : Nat} (h : i < l.length) : l.drop i = el l i :: l.drop (i + 1) := by
  rw [List.drop_eq_getElem_cons h, el_eq]
theorem el_append_left [Inhabited α] {l m : List α} {i : Nat} (h : i < l.length) : el (l ++ m) i = el l i := by
  unfold el; simp only [List.getD_eq_getElem?_getD]; rw [List.getElem?_append_left h]
theorem el_append_right [Inhabited α] {l m : List α} {i : Nat} (h : l.length ≤ i) : el (l ++ m) i = el m (i - l.length) := by
  unfold el; simp only [List.getD_eq_getElem?_getD]; rw [List.getElem?_append_right h]
theorem el_mem [Inhabited α] {l : List α} {i : Nat} (h : i < l.length) : el l i ∈ l := by rw [← el_eq h]; exact List.getElem_mem h
def cellsL (R : RecV α k) (l : List α) : List Value := l.flatMap R.row
theorem cellsL_len (R : RecV α k) (l : List α) : (cellsL R l).length = l.length * k := by
  unfold cellsL
  induction l with
  | nil => simp
  | cons a l ih => rw [List.flatMap_cons, List.length_append, ih, R.len, List.length_cons, Nat.add_mul]; omega
theorem cellsL_nil (R : RecV α k) : cellsL R [] = [] := rfl
theorem cellsL_cons (R : RecV α k) (a : α) (l : List α) : cellsL R (a :: l) = R.row a ++ cellsL R l := by simp [cellsL]
theorem cellsL_append (R : RecV α k) (l m : List α) : cellsL R (l ++ m) = cellsL R l ++ cellsL R m := by simp [cellsL]
theorem cellsL_snoc (R : RecV α k) (l : List α) (a : α) : cellsL R (l ++ [a]) = cellsL R l ++ R.row a := by simp [cellsL]
theorem cellsL_take (R : RecV α k) : ∀ (l : List α) (n : Nat), cellsL R (l.take n) = (cellsL R l).take (n * k)
  | [], n => by simp [cellsL]
  | a :: l, 0 => by simp [cellsL]
  | a :: l, n + 1 => by
    rw [List.take_succ_cons, cellsL_cons, cellsL_cons, cellsL_take R l n, List.take_append, R.len, Nat.add_mul, Nat.one_mul, List.take_of_length_le (l := R.row a) (by rw [R.len]; omega), show n * k + k - k = n * k by omega]
theorem cellsL_drop (R : RecV α k) : ∀ (l : List α) (n : Nat), cellsL R (l.drop n) = (cellsL R l).drop (n * k)
  | [], n => by simp [cellsL]
  | a :: l, 0 => by simp
  | a :: l, n + 1 => by
    rw [List.drop_succ_cons, cellsL_cons, cellsL_drop R l n, List.drop_append, R.len, Nat.add_mul, Nat.one_mul, List.drop_of_length_le (l := R.row a) (by rw [R.len]; omega), show n * k + k - k = n * k by omega, List.nil_append]
theorem cellsL_get [Inhabited α] (R : RecV α k) {l : List α} {i j : Nat} (hi : i < l.length) (hj : j < k) : (cellsL R l)[i * k + j]? = (R.row (el l i))[j]? := by
  have h1 : l = l.take i ++ (el l i :: l.drop (i + 1)) := by
    conv => lhs; rw [← List.take_append_drop i l, drop_el hi]
  have h2 : cellsL R l = cellsL R (l.take i) ++ (R.row (el l i) ++ cellsL R (l.drop (i + 1))) := by
    conv => lhs; rw [h1]
    rw [cellsL_append, cellsL_cons]
  rw [h2]
  have hl : (cellsL R (l.take i)).length = i * k := by rw [cellsL_len, List.length_take, Nat.min_eq_left (by omega)]
  rw [List.getElem?_append_right (by omega), hl, List.getElem?_append_left (by rw [R.len]; omega)]
  congr 1
  omega
theorem cellsL_zrow (R : RecV α k) (a : α) : ∀ n, zrow (R.row a) n = cellsL R (List.replicate n a)
  | 0 => rfl
  | n + 1 => by rw [zrow_succ, List.replicate_succ, cellsL_cons, cellsL_zrow R a n]

/-- Cells that lie behind a place. -/
def Cl (M : Mem) (id off : Nat) (xs : List Value) : Prop := ∀ (j : Nat) x, xs[j]? = some x → cellAt M id (off + j) = some x
theorem Cl.app {M : Mem} {id off : Nat} {xs : List Value} (h : Cl M id off xs) (L : Mem) : Cl (M ++ L) id off xs := fun j x hx => cellAt_app (h j x hx) L
theorem cellAt_keeps {M M' : Mem} {id off : Nat} {v : Value} (hk : Keeps M M') (h : cellAt M id off = some v) : cellAt M' id off = some v := by
  unfold cellAt at h ⊢
  cases hm : M[id]? with
  | none => rw [hm] at h; cases h
  | some s => rw [hk.get hm]; rw [hm] at h; exact h
theorem Cl.keeps {M M' : Mem} {id off : Nat} {xs : List Value} (h : Cl M id off xs) (hk : Keeps M M') : Cl M' id off xs := fun j x hx => cellAt_keeps hk (h j x hx)
theorem cellsAt_of {M : Mem} {id off n : Nat} {xs : List Value} (h : Cl M id off xs) (hl : xs.length = n) (h0 : 0 < n) : cellsAt M id off n = some xs := by
  have hx0 : xs[0]? = some xs[0] := List.getElem?_eq_getElem (by omega)
  have h1 := h 0 _ hx0
  unfold cellAt at h1
  unfold cellsAt
  cases hm : M[id]? with
  | none => rw [hm] at h1; cases h1
  | some s =>
    cases s with
    | live r =>
      have at_ : ∀ (j : Nat) x, xs[j]? = some x → r.cells[off + j]? = some x := fun j x hx => by
        have := h j x hx
        unfold cellAt at this
        rw [hm] at this
        exact this
      have hle : off + n ≤ r.cells.length := by
        have hl1 : xs[n - 1]? = some (xs[n - 1]'(by omega)) := List.getElem?_eq_getElem (by omega)
        have := (List.getElem?_eq_some_iff.1 (at_ _ _ hl1)).1
        omega
      simp only
      rw [if_pos hle]
      congr 1
      apply List.ext_getElem?
      intro j
      by_cases hj : j < n
      · rw [List.getElem?_take, if_pos hj, List.getElem?_drop]
        have hxj : xs[j]? = some (xs[j]'(by omega)) := List.getElem?_eq_getElem (by omega)
        rw [at_ j _ hxj, hxj]
      · rw [List.getElem?_take, if_neg hj, List.getElem?_eq_none (by omega)]
    | dead => rw [hm] at h1; cases h1
    | hole => rw [hm] at h1; cases h1

/-- The slice .slice A n c reads in M as the records l. -/
def Sl (R : RecV α k) (M : Mem) (A : Option Addr) (n : Nat) (l : List α) : Prop :=
  l.length = n ∧ (0 < n → ∃ id off, A = some ⟨id, off, none⟩ ∧ rowEsz M id = some k ∧ Cl M id off (cellsL R l))
theorem Sl.at_ [Inhabited α] {R : RecV α k} {M : Mem} {A : Option Addr} {n : Nat} {l : List α} (h : Sl R M A n l) {i : Nat} (hi : i < n) :
    ∃ id off, A = some ⟨id, off, none⟩ ∧ rowEsz M id = some k ∧ Cl M id (off + i * k) (R.row (el l i)) := by
  obtain ⟨id, off, e, he, hc⟩ := h.2 (by omega)
  refine ⟨id, off, e, he, fun j x hx => ?_⟩
  have hj : j < k := by have := (List.getElem?_eq_some_iff.1 hx).1; rwa [R.len] at this
  rw [Nat.add_assoc]
  exact hc _ _ (by rw [cellsL_get R (by rw [h.1]; exact hi) hj]; exact hx)
theorem rowEsz_keeps {M M' : Mem} {id k : Nat} (hk : Keeps M M') (h : rowEsz M id = some k) : rowEsz M' id = some k := by
  unfold rowEsz at h ⊢
  cases hm : M[id]? with
  | none => rw [hm] at h; cases h
  | some s => rw [hk.get hm]; rw [hm] at h; exact h
theorem Sl.keeps {R : RecV α k} {M M' : Mem} {A : Option Addr} {n : Nat} {l : List α} (h : Sl R M A n l) (hk : Keeps M M') : Sl R M' A n l :=
  ⟨h.1, fun hn => by
    obtain ⟨id, off, e, he, hc⟩ := h.2 hn
    exact ⟨id, off, e, rowEsz_keeps hk he, hc.keeps hk⟩⟩
theorem Sl.app {R : RecV α k} {M : Mem} {A : Option Addr} {n : Nat} {l : List α} (h : Sl R M A n l) (L : Mem) : Sl R (M ++ L) A n l := h.keeps (keeps_app L)
theorem splice_app : ∀ (ws xs ys : List Value), ws.length ≤ ys.length → splice (xs ++ ys) xs.length ws = xs ++ (ws ++ ys.drop ws.length)
  | [], xs, ys, _ => by simp
  | w :: ws, xs, [], h => by simp at h
  | w :: ws, xs, y :: ys, h => by
    rw [splice_cons]
    have e : (xs ++ y :: ys).set xs.length w = (xs ++ [w]) ++ ys := by simp [List.set_append_right]
    have := splice_app ws (xs ++ [w]) ys (by simpa using h)
    rw [e, show xs.length + 1 = (xs ++ [w]).length by simp, this]
    simp
theorem splice_rec (R : RecV α k) {xs : List α} {m : Nat} {z : List Value} {a : α} (hz : z.length = k) : splice (cellsL R xs ++ zrow z (m + 1)) (xs.length * k) (R.row a) = cellsL R (xs ++ [a]) ++ zrow z m := by
  rw [← cellsL_len R xs, splice_app _ _ _ (by rw [R.len, zrow_succ, List.length_append]; omega), R.len, zrow_succ, List.drop_append_of_le_length (by omega), List.drop_of_length_le (by omega), cellsL_snoc]
  simp
theorem all_oneV_of {vs : List Value} (h : ∀ v ∈ vs, oneV v = true) : vs.all oneV = true := List.all_eq_true.2 h
theorem putCells_rec (R : RecV α k) {b : Nat} {M : Mem} {xs : List α} {m i : Nat} {z : List Value} {a : α} {t : Bool} {e : TypeId} (hb : b ≤ M.length) (hz : z.length = k) (hi : xs.length = i) (h1 : (R.row a).all oneV = true) :
    putCells b (M ++ [.live ⟨cellsL R xs ++ zrow z (m + 1), true, t, e, k⟩]) M.length (i * k) (R.row a) = some (M ++ [.live ⟨cellsL R (xs ++ [a]) ++ zrow z m, true, t, e, k⟩]) := by
  subst hi
  rw [putCells_new0 hb, putL_zero, splice_rec R hz, if_pos ⟨rfl, by simp only [List.length_append, cellsL_len, R.len, zrow_succ]; omega, h1⟩]
  rfl
theorem Sl.new {R : RecV α k} {M : Mem} {l : List α} {o t : Bool} {e : TypeId} {n : Nat} (hn : l.length = n) : Sl R (M ++ [.live ⟨cellsL R l, o, t, e, k⟩]) (some ⟨M.length, 0, none⟩) n l :=
  ⟨hn, fun _ => ⟨M.length, 0, rfl, by simp [rowEsz], fun j x hx => by simp [cellAt, hx]⟩⟩
def Ownd (M : Mem) (A : Option Addr) (n : Nat) : Prop := 0 < n → ∃ id off r, A = some ⟨id, off, none⟩ ∧ M[id]? = some (.live r) ∧ r.own = true
/-- A result that lies in new memory. -/
def Fresh (R : RecV α k) (M : Mem) (v : Value) (M' : Mem) (l : List α) : Prop :=
  ∃ A n c, v = .slice A n c ∧ n ≤ 1099511627776 ∧ Sl R M' A n l ∧ (∀ a, A = some a → M.length ≤ a.block) ∧ Ownd M' A n ∧ Keeps M M'
theorem Fresh.new {R : RecV α k} {M : Mem} {l : List α} {t : Bool} {e : TypeId} {n c : Nat} (hn : l.length = n) (hb : n ≤ 1099511627776) : Fresh R M (.slice (some ⟨M.length, 0, none⟩) n c) (M ++ [.live ⟨cellsL R l, true, t, e, k⟩]) l :=
  ⟨_, _, _, rfl, hb, Sl.new hn, fun a h => by injection h with h; subst h; exact Nat.le_refl _, fun _ => ⟨_, _, _, rfl, getElem?_snoc_eq, rfl⟩, keeps_app _⟩
theorem Sl.lt {R : RecV α k} {M : Mem} {A : Option Addr} {n : Nat} {l : List α} (h : Sl R M A n l) (hn : 0 < n) : ∃ a, A = some a ∧ a.block < M.length := by
  obtain ⟨id, off, e, he, _⟩ := h.2 hn
  refine ⟨_, e, ?_⟩
  unfold rowEsz at he
  cases hm : M[id]? with
  | none => rw [hm] at he; cases he
  | some s => exact (List.getElem?_eq_some_iff.1 hm).1
theorem Keeps.len {M M' : Mem} (h : Keeps M M') : M.length ≤ M'.length := by
  rcases Nat.eq_zero_or_pos M.length with h0 | h0
  · omega
  · have := h.get (List.getElem?_eq_getElem (show M.length - 1 < M.length by omega))
    have := (List.getElem?_eq_some_iff.1 this).1
    omega
/-- Only the row of A may have turned. -/
def Turned (A : Option Addr) (n : Nat) (M M' : Mem) : Prop := M'.length = M.length ∧ ∀ (i : Nat) s, M[i]? = some s → (∀ a, A = some a → 0 < n → i ≠ a.block) → M'[i]? = some s
theorem Turned.keeps {M0 M M' : Mem} {A : Option Addr} {n : Nat} (h : Turned A n M M') (hk : Keeps M0 M) (ha : ∀ a, A = some a → M0.length ≤ a.block) : Keeps M0 M' := by
  unfold Keeps
  exact fun i s hs => h.2 i s (hk.get hs) fun a e _ => by have := ha a e; have := (List.getElem?_eq_some_iff.1 hs).1; omega
theorem Sl.turn {R : RecV α k} {M M' : Mem} {A B : Option Addr} {n m : Nat} {l : List α} (h : Sl R M B m l) (ht : Turned A n M M') (hd : ∀ a b, A = some a → B = some b → 0 < n → 0 < m → b.block ≠ a.block) : Sl R M' B m l := by
  refine ⟨h.1, fun hm => ?_⟩
  obtain ⟨id, off, e, he, hc⟩ := h.2 hm
  have hi : M'[id]? = M[id]? := by
    cases hs : M[id]? with
    | none => unfold rowEsz at he; rw [hs] at he; cases he
    | some s => exact ht.2 id s hs fun a ea hn => hd a _ ea e hn hm
  refine ⟨id, off, e, by unfold rowEsz at he ⊢; rw [hi]; exact he, fun j x hx => ?_⟩
  have := hc j x hx
  unfold cellAt at this ⊢
  rw [hi]; exact this
theorem Ownd.turn {M M' : Mem} {A B : Option Addr} {n m : Nat} (h : Ownd M B m) (ht : Turned A n M M') (hd : ∀ a b, A = some a → B = some b → 0 < n → 0 < m → b.block ≠ a.block) : Ownd M' B m := fun hm => by
  obtain ⟨id, off, r, e, hr, ho⟩ := h hm
  exact ⟨id, off, r, e, ht.2 id _ hr fun a ea hn => hd a _ ea e hn hm, ho⟩
theorem Ownd.keeps {M M' : Mem} {A : Option Addr} {n : Nat} (h : Ownd M A n) (hk : Keeps M M') : Ownd M' A n := fun hn => by
  obtain ⟨id, off, r, e, hr, ho⟩ := h hn
  exact ⟨id, off, r, e, hk.get hr, ho⟩
theorem Sl.cells {R : RecV α k} {M : Mem} {id off n : Nat} {l : List α} {r : Row} (h : Sl R M (some ⟨id, off, none⟩) n l) (hr : M[id]? = some (.live r)) (hn : 0 < n) (hk : 0 < k) : r.esz = k ∧ off + n * k ≤ r.cells.length := by
  obtain ⟨_, _, e, he, hc⟩ := h.2 hn
  injection e with e
  injection e with e1 e2
  subst e1; subst e2
  refine ⟨by unfold rowEsz at he; rw [hr] at he; simpa using he, ?_⟩
  have hnk : 0 < n * k := Nat.mul_pos hn hk
  have hl : (cellsL R l).length = n * k := by rw [cellsL_len, h.1]
  have hx : (cellsL R l)[n * k - 1]? = some ((cellsL R l)[n * k - 1]'(by omega)) := List.getElem?_eq_getElem (by omega)
  have := hc _ _ hx
  unfold cellAt at this
  rw [hr] at this
  have := (List.getElem?_eq_some_iff.1 this).1
  omega
theorem put_set {b : Nat} {M : Mem} {id p : Nat} {v : Value} {cs : List Value} {t : Bool} {e : TypeId} {z : Nat} (hid : id < M.length) (hb : b ≤ id) (hp : p < cs.length) (h1 : oneV v = true) :
    putCells b (M.set id (.live ⟨cs, true, t, e, z⟩)) id p [v] = some (M.set id (.live ⟨cs.set p v, true, t, e, z⟩)) := by
  unfold putCells
  rw [List.getElem?_set_self hid]
  simp only
  rw [if_pos (by simp [hb, h1]; omega)]
  simp [splice]
theorem rowEsz_set {M : Mem} {id : Nat} {r : Row} (hid : id < M.length) : rowEsz (M.set id (.live r)) id = some r.esz := by simp [rowEsz, List.getElem?_set_self hid]
theorem splice_mid (R : RecV α k) {cs : List Value} {off j : Nat} {l : List α} {a : α} (hl : l.length = j) (h : off + (j + 1) * k ≤ cs.length) :
    splice (cs.take off ++ cellsL R l ++ cs.drop (off + j * k)) (off + j * k) (R.row a) = cs.take off ++ cellsL R (l ++ [a]) ++ cs.drop (off + (j + 1) * k) := by
  rw [Nat.add_mul, Nat.one_mul] at h ⊢
  have e : off + j * k = (cs.take off ++ cellsL R l).length := by rw [List.length_append, cellsL_len, List.length_take, hl]; omega
  conv => lhs; rw [e]
  rw [← e, e, splice_app _ _ _ (by rw [R.len, List.length_drop]; omega), R.len, List.drop_drop, cellsL_snoc, ← e]
  simp [Nat.add_assoc]
theorem set_turned {M : Mem} {id off : Nat} {s : Slot} {n : Nat} (hn : 0 < n) : Turned (some ⟨id, off, none⟩) n M (M.set id s) :=
  ⟨by simp, fun i s hs h => by rw [List.getElem?_set_ne (by have := h _ rfl hn; simpa using this.symm)]; exact hs⟩
theorem Sl.set {R : RecV α k} {M : Mem} {id off n : Nat} {pre post : List Value} {l : List α} {o t : Bool} {e : TypeId} (hid : id < M.length) (hp : pre.length = off) (hl : l.length = n) :
    Sl R (M.set id (.live ⟨pre ++ cellsL R l ++ post, o, t, e, k⟩)) (some ⟨id, off, none⟩) n l :=
  ⟨hl, fun _ => ⟨id, off, rfl, by simp [rowEsz, List.getElem?_set_self hid], fun j x hx => by
    simp only [cellAt, List.getElem?_set_self hid]
    rw [List.append_assoc, List.getElem?_append_right (by omega), hp, show off + j - off = j by omega, List.getElem?_append_left (List.getElem?_eq_some_iff.1 hx).1]
    exact hx⟩⟩
/-- A slice value that reads as records, its row's id from lo up to hi. -/
def RdL (R : RecV α k) (lo hi : Nat) (M : Mem) (v : Value) (l : List α) : Prop :=
  ∃ A n c, v = .slice A n c ∧ n ≤ 9223372036854775807 ∧ Sl R M A n l ∧ (∀ a, A = some a → 0 < n → lo ≤ a.block ∧ a.block < hi)
/-- It may be written. -/
def OwL (R : RecV α k) (lo hi : Nat) (M : Mem) (v : Value) (l : List α) : Prop :=
  ∃ A n c, v = .slice A n c ∧ n ≤ 1099511627776 ∧ Sl R M A n l ∧ (∀ a, A = some a → 0 < n → lo ≤ a.block ∧ a.block < hi) ∧ Ownd M A n
/-- Only rows with ids from lo up to hi may have turned. -/
def Turn (lo hi : Nat) (M M' : Mem) : Prop := M.length ≤ M'.length ∧ ∀ (i : Nat) s, M[i]? = some s → (i < lo ∨ hi ≤ i) → M'[i]? = some s
theorem OwL.rd {R : RecV α k} {lo hi : Nat} {M : Mem} {v : Value} {l : List α} (h : OwL R lo hi M v l) : RdL R lo hi M v l := by
  obtain ⟨A, n, c, h1, h2, h3, h4, _⟩ := h
  exact ⟨A, n, c, h1, by omega, h3, h4⟩
theorem RdL.keeps {R : RecV α k} {lo hi : Nat} {M M' : Mem} {v : Value} {l : List α} (h : RdL R lo hi M v l) (hk : Keeps M M') : RdL R lo hi M' v l := by
  obtain ⟨A, n, c, h1, h2, h3, h4⟩ := h
  exact ⟨A, n, c, h1, h2, h3.keeps hk, h4⟩
theorem OwL.keeps {R : RecV α k} {lo hi : Nat} {M M' : Mem} {v : Value} {l : List α} (h : OwL R lo hi M v l) (hk : Keeps M M') : OwL R lo hi M' v l := by
  obtain ⟨A, n, c, h1, h2, h3, h4, h5⟩ := h
  exact ⟨A, n, c, h1, h2, h3.keeps hk, h4, h5.keeps hk⟩
theorem Sl.turn' {R : RecV α k} {M M' : Mem} {B : Option Addr} {m lo hi : Nat} {l : List α} (h : Sl R M B m l) (ht : Turn lo hi M M') (hd : ∀ b, B = some b → 0 < m → b.block < lo ∨ hi ≤ b.block) : Sl R M' B m l := by
  refine ⟨h.1, fun hm => ?_⟩
  obtain ⟨id, off, e, he, hc⟩ := h.2 hm
  have hi' : M'[id]? = M[id]? := by
    cases hs : M[id]? with
    | none => unfold rowEsz at he; rw [hs] at he; cases he
    | some s => exact ht.2 id s hs (hd _ e hm)
  refine ⟨id, off, e, by unfold rowEsz at he ⊢; rw [hi']; exact he, fun j x hx => ?_⟩
  have := hc j x hx
  unfold cellAt at this ⊢
  rw [hi']; exact this
theorem Ownd.turn' {M M' : Mem} {B : Option Addr} {m lo hi : Nat} (h : Ownd M B m) (ht : Turn lo hi M M') (hd : ∀ b, B = some b → 0 < m → b.block < lo ∨ hi ≤ b.block) : Ownd M' B m := fun hm => by
  obtain ⟨id, off, r, e, hr, ho⟩ := h hm
  exact ⟨id, off, r, e, ht.2 id _ hr (hd _ e hm), ho⟩
theorem RdL.turn {R : RecV α k} {lo hi lo' hi' : Nat} {M M' : Mem} {v : Value} {l : List α} (h : RdL R lo hi M v l) (ht : Turn lo' hi' M M') (hd : hi ≤ lo' ∨ hi' ≤ lo) : RdL R lo hi M' v l := by
  obtain ⟨A, n, c, h1, h2, h3, h4⟩ := h
  exact ⟨A, n, c, h1, h2, h3.turn' ht fun b e hm => by have := h4 b e hm; omega, h4⟩
theorem OwL.turn {R : RecV α k} {lo hi lo' hi' : Nat} {M M' : Mem} {v : Value} {l : List α} (h : OwL R lo hi M v l) (ht : Turn lo' hi' M M') (hd : hi ≤ lo' ∨ hi' ≤ lo) : OwL R lo hi M' v l := by
  obtain ⟨A, n, c, h1, h2, h3, h4, h5⟩ := h
  exact ⟨A, n, c, h1, h2, h3.turn' ht fun b e hm => (by have := h4 b e hm; omega), h4, h5.turn' ht fun b e hm => (by have := h4 b e hm; omega)⟩
theorem Turn.keeps {M0 M M' : Mem} {lo hi : Nat} (h : Turn lo hi M M') (hk : Keeps M0 M) (ha : M0.length ≤ lo) : Keeps M0 M' := by
  unfold Keeps
  exact fun i s hs => h.2 i s (hk.get hs) (.inl (by have := (List.getElem?_eq_some_iff.1 hs).1; omega))
theorem RdL.of_sl {R : RecV α k} {M : Mem} {B : Option Addr} {n : Nat} {l : List α} (hn : n ≤ maxLen) (hs : Sl R M B n l) (c : Nat) : RdL R 0 M.length M (.slice B n c) l :=
  ⟨B, n, c, rfl, by unfold maxLen at hn; omega, hs, fun a e hp => ⟨Nat.zero_le _, by obtain ⟨a', e', h⟩ := hs.lt hp; rw [e] at e'; injection e' with e'; subst e'; exact h⟩⟩
theorem RdL.up {R : RecV α k} {lo : Nat} {M : Mem} {v : Value} {l : List α} (h : RdL R lo M.length M v l) (L : Mem) : RdL R lo (M ++ L).length (M ++ L) v l := by
  obtain ⟨A, n, c, h1, h2, h3, h4⟩ := h
  exact ⟨A, n, c, h1, h2, h3.app L, fun a e hp => by have := h4 a e hp; simp; omega⟩
theorem Fresh.ow {R : RecV α k} {M M' : Mem} {v : Value} {l : List α} (h : Fresh R M v M' l) : OwL R M.length M'.length M' v l ∧ Keeps M M' := by
  obtain ⟨A, n, c, h1, h2, h3, h4, h5, h6⟩ := h
  exact ⟨⟨A, n, c, h1, h2, h3, fun a e hn => ⟨h4 a e, by obtain ⟨a', e', h⟩ := h3.lt hn; rw [e] at e'; injection e' with e'; subst e'; exact h⟩, h5⟩, h6⟩
theorem cellsAt_keeps {M M' : Mem} {id off n : Nat} {vs : List Value} (hk : Keeps M M') (h : cellsAt M id off n = some vs) : cellsAt M' id off n = some vs := by
  unfold cellsAt at h ⊢
  cases hm : M[id]? with
  | none => rw [hm] at h; cases h
  | some s => rw [hk.get hm]; rw [hm] at h; exact h
theorem cellsAt_turn {M M' : Mem} {id off n lo hi : Nat} {vs : List Value} (ht : Turn lo hi M M') (hi' : id < lo) (h : cellsAt M id off n = some vs) : cellsAt M' id off n = some vs := by
  unfold cellsAt at h ⊢
  cases hm : M[id]? with
  | none => rw [hm] at h; cases h
  | some s => rw [ht.2 id s hm (.inl hi')]; rw [hm] at h; exact h
theorem cellsAt_turn2 {M M' : Mem} {id off n lo hi : Nat} {vs : List Value} (ht : Turn lo hi M M') (hi' : id < lo ∨ hi ≤ id) (h : cellsAt M id off n = some vs) : cellsAt M' id off n = some vs := by
  unfold cellsAt at h ⊢
  cases hm : M[id]? with
  | none => rw [hm] at h; cases h
  | some s => rw [ht.2 id s hm hi']; rw [hm] at h; exact h
theorem Keeps.split {A B : Mem} (h : Keeps A B) : ∃ C, B = A ++ C := by
  refine ⟨B.drop A.length, ?_⟩
  have hl := h.len
  apply List.ext_getElem?
  intro i
  by_cases hi : i < A.length
  · rw [List.getElem?_append_left hi, h.get (List.getElem?_eq_getElem hi), List.getElem?_eq_getElem hi]
  · rw [List.getElem?_append_right (by omega), List.getElem?_drop, show A.length + (i - A.length) = i by omega]
theorem turn_mid {M A B C : Mem} (h : A.length = B.length) : Turn M.length (M.length + A.length) (M ++ (A ++ C)) (M ++ (B ++ C)) := by
  refine ⟨by simp [h], fun i s hs hd => ?_⟩
  rcases hd with hd | hd
  · rw [List.getElem?_append_left hd] at hs ⊢; exact hs
  · rw [List.getElem?_append_right (by omega), List.getElem?_append_right (by omega)] at hs ⊢
    rw [← h]; exact hs
theorem turn_mid3 {M C : Mem} {a b c a' b' c' : Slot} : Turn M.length (M.length + 3) (M ++ a :: b :: c :: C) (M ++ a' :: b' :: c' :: C) := turn_mid (A := [a, b, c]) (B := [a', b', c']) rfl
theorem OwL.wide {R : RecV α k} {lo hi lo' hi' : Nat} {M : Mem} {v : Value} {l : List α} (h : OwL R lo hi M v l) (h1 : lo' ≤ lo) (h2 : hi ≤ hi') : OwL R lo' hi' M v l := by
  obtain ⟨A, n, c, e1, e2, e3, e4, e5⟩ := h
  exact ⟨A, n, c, e1, e2, e3, fun a e hn => by have := e4 a e hn; omega, e5⟩
theorem OwL.isSlice {R : RecV α k} {lo hi : Nat} {M : Mem} {v : Value} {l : List α} (h : OwL R lo hi M v l) : ∃ A n c, v = .slice A n c := by
  obtain ⟨A, n, c, e1, _⟩ := h
  exact ⟨A, n, c, e1⟩
theorem OwL.one {R : RecV α k} {lo hi : Nat} {M : Mem} {v : Value} {l : List α} (h : OwL R lo hi M v l) : oneV v = true := by
  obtain ⟨A, n, c, rfl⟩ := h.isSlice
  rfl
theorem Turn.app {lo hi : Nat} {M M' L : Mem} (h : Turn lo hi (M ++ L) M') : Turn lo hi M M' :=
  ⟨Nat.le_trans (by simp) h.1, fun i s hs hd => h.2 i s (by rw [List.getElem?_append_left (List.getElem?_eq_some_iff.1 hs).1]; exact hs) hd⟩
end
def fstI {α : Type} (p : α → Bool) (l : List α) : Int := match l.findIdx? p with | some i => (i : Int) | none => -1
theorem fstI_none {α : Type} [Inhabited α] {p : α → Bool} {l : List α} (h : ∀ i, i < l.length → p (el l i) = false) : fstI p l = -1 := by
  unfold fstI
  rw [List.findIdx?_eq_none_iff.2]
  intro x hx
  obtain ⟨i, hi, rfl⟩ := List.getElem_of_mem hx
  have := h i hi
  rw [← el_eq hi] at this
  simpa using this
theorem fstI_some {α : Type} [Inhabited α] {p : α → Bool} {l : List α} {i : Nat} (hi : i < l.length) (hp : p (el l i) = true) (h : ∀ j, j < i → p (el l j) = false) : fstI p l = i := by
  unfold fstI
  rw [List.findIdx?_eq_some_iff_getElem.2 (?_ : ∃ h : i < l.length, p l[i] = true ∧ ∀ j (hj : j < i), ¬ p (l[j]'(Nat.lt_trans hj h)) = true)]
  exact ⟨hi, by rw [el_eq hi]; exact hp, fun j hj => by have := h j hj; rw [← el_eq (by omega)] at this; simpa using this⟩
def intR : RecV Int 1 := ⟨fun n => [iv n], fun _ => rfl⟩
theorem wrap_in {x : Int} (h1 : -9223372036854775808 ≤ x) (h2 : x ≤ 9223372036854775807) : IntKind.i64.wrap x = x := IntWalk.i64_in _ ⟨h1, h2⟩
theorem keeps_set {M M' : Mem} {id : Nat} {s : Slot} (hK : Keeps M M') (h : M.length ≤ id) : Keeps M (M'.set id s) := by
  unfold Keeps
  exact fun i s hs => by rw [List.getElem?_set_ne (by have := (List.getElem?_eq_some_iff.1 hs).1; omega)]; exact hK.get hs
theorem splice_whole {cs vs : List Value} (h : vs.length = cs.length) : splice cs 0 vs = vs := by
  have := splice_app vs [] cs (by omega)
  simpa [h] using this
theorem put_whole {b : Nat} {M : Mem} {id : Nat} {vs cs : List Value} {t : Bool} {e : TypeId} {z : Nat} (hr : M[id]? = some (.live ⟨cs, true, t, e, z⟩)) (hb : b ≤ id) (hl : vs.length = cs.length) (h1 : vs.all oneV = true) :
    putCells b M id 0 vs = some (M.set id (.live ⟨vs, true, t, e, z⟩)) := by
  unfold putCells
  rw [hr]
  simp only
  rw [if_pos ⟨hb, trivial, by omega, h1⟩, splice_whole hl]
theorem str_same (s : ByteArray) : strV .neq s s = some (.bool false) := by
  show some (Value.bool (!(s.toList == s.toList))) = _
  rw [beq_self_eq_true]
  rfl
theorem dec_neg {x : Int} (h : 0 ≤ x) : decide (x < 0) = false := decide_eq_false (by omega)
def inB (n lo hi : Int) : Bool := decide (lo ≤ n) && decide (n ≤ hi)
theorem inB_iff {n lo hi : Int} : inB n lo hi = true ↔ lo ≤ n ∧ n ≤ hi := by simp [inB]
end Go.Proofs.Ytgaiejaegimilaa

namespace Go.Proofs.Ytgaiejaegimilaa
open Go.RowKit
set_option linter.unusedVariables false
set_option linter.unusedSimpArgs false
set_option maxRecDepth 100000
attribute [local simp] List.getElem?_cons_zero
attribute [local irreducible] awCond awCall awLoop awDraw ow retQ retC resQ Keeps
section
variable {α : Type} {k : Nat}
/-- The value v is a list in a row of one's own, from id B on, that append can grow. -/
def Acc (R : RecV α k) (e : TypeId) (B : Nat) (M : Mem) (v : Value) (l : List α) : Prop :=
  ∃ A n c, v = .slice A n c ∧ l.length = n ∧ ((A = none ∧ n = 0 ∧ c = 0) ∨ ∃ id t, A = some ⟨id, 0, none⟩ ∧ B ≤ id ∧ M[id]? = some (.live ⟨cellsL R l, true, t, e, k⟩))
/-- Below B nothing has turned. -/
def Same (B : Nat) (M M' : Mem) : Prop := M.length ≤ M'.length ∧ ∀ (i : Nat) s, i < B → M[i]? = some s → M'[i]? = some s
theorem Same.keeps {B : Nat} {M0 M M' : Mem} (h : Same B M M') (hk : Keeps M0 M) (hb : M0.length ≤ B) : Keeps M0 M' := by
  unfold Keeps
  exact fun i s hs => h.2 i s (by have := (List.getElem?_eq_some_iff.1 hs).1; omega) (hk.get hs)
theorem Acc.keeps {R : RecV α k} {e : TypeId} {B : Nat} {M M' : Mem} {v : Value} {l : List α} (h : Acc R e B M v l) (hk : Keeps M M') : Acc R e B M' v l := by
  obtain ⟨A, n, c, h1, h2, h3⟩ := h
  refine ⟨A, n, c, h1, h2, ?_⟩
  rcases h3 with h3 | ⟨id, t, h4, h5, h6⟩
  · exact .inl h3
  · exact .inr ⟨id, t, h4, h5, hk.get h6⟩
theorem Acc.src {P : Program} {R : RecV α k} {e tx : TypeId} {B : Nat} {M : Mem} {v : Value} {l : List α} (h : Acc R e B M v l) (ht : ∃ e', P.underlying tx = some (.slice e')) : srcOf P M k tx v = some (l.length, cellsL R l) := by
  obtain ⟨e', ht⟩ := ht
  obtain ⟨A, n, c, rfl, hl, hA⟩ := h
  subst hl
  rcases hA with ⟨rfl, h0, rfl⟩ | ⟨id, t, rfl, hid, hr⟩
  · obtain rfl := List.eq_nil_of_length_eq_zero h0
    simp [srcOf, ht, cellsL]
  · have e : cellsAt M id 0 (l.length * k) = some (cellsL R l) := by
      unfold cellsAt
      rw [hr]
      simp only
      rw [if_pos (by rw [cellsL_len]; omega), List.drop_zero, List.take_of_length_le (by rw [cellsL_len]; omega)]
    rcases l with _ | ⟨x, l⟩
    · simp [srcOf, ht, cellsL]
    · simp at e
      simp [srcOf, ht, e]
theorem Sl.src {P : Program} {R : RecV α k} {tx : TypeId} {M : Mem} {ad : Addr} {n c : Nat} {l : List α} (h : Sl R M (some ad) n l) (hk : 0 < k) (ht : ∃ e', P.underlying tx = some (.slice e')) : srcOf P M k tx (.slice (some ad) n c) = some (l.length, cellsL R l) := by
  obtain ⟨e', ht⟩ := ht
  have hl := h.1
  by_cases h0 : n = 0
  · subst h0
    obtain rfl := List.eq_nil_of_length_eq_zero hl
    simp [srcOf, ht, cellsL]
  · obtain ⟨id, off, e, he, hc⟩ := h.2 (by omega)
    injection e with e
    subst e
    have e := cellsAt_of hc (by rw [cellsL_len, hl]) (Nat.mul_pos (by omega) hk)
    simp [srcOf, ht, e, h0, hl]
theorem nil_eq {P : Program} {t e : TypeId} {q : Option Addr} {n c : Nat} (h : P.underlying t = some (.slice e)) : binV P .eql t (.slice q n c) (.slice none 0 0) = some (.bool q.isNone) := by
  cases q <;> simp [binV, eqV, h, slNil, eqNil]
theorem Acc.set_ne {R : RecV α k} {e : TypeId} {B : Nat} {M : Mem} {v : Value} {l : List α} {i : Nat} {s : Slot} (h : Acc R e B M v l) (hi : i < B) : Acc R e B (M.set i s) v l := by
  obtain ⟨A, n, c, h1, h2, h3⟩ := h
  refine ⟨A, n, c, h1, h2, ?_⟩
  rcases h3 with h3 | ⟨id, t, h4, h5, h6⟩
  · exact .inl h3
  · exact .inr ⟨id, t, h4, h5, by rw [List.getElem?_set_ne (by omega)]; exact h6⟩
theorem Acc.low {R : RecV α k} {e : TypeId} {B B' : Nat} {M : Mem} {v : Value} {l : List α} (h : Acc R e B M v l) (hb : B' ≤ B) : Acc R e B' M v l := by
  obtain ⟨A, n, c, h1, h2, h3⟩ := h
  refine ⟨A, n, c, h1, h2, ?_⟩
  rcases h3 with h3 | ⟨id, t, h4, h5, h6⟩
  · exact .inl h3
  · exact .inr ⟨id, t, h4, by omega, h6⟩
theorem Acc.sl {R : RecV α k} {e : TypeId} {B : Nat} {M : Mem} {v : Value} {l : List α} (h : Acc R e B M v l) : ∃ A n c, v = .slice A n c ∧ l.length = n ∧ Sl R M A n l ∧ oneV v = true := by
  obtain ⟨A, n, c, rfl, hl, hA⟩ := h
  refine ⟨A, n, c, rfl, hl, ?_, rfl⟩
  rcases hA with ⟨rfl, rfl, rfl⟩ | ⟨id, t, rfl, hid, hr⟩
  · exact ⟨hl, fun h => by omega⟩
  · exact ⟨hl, fun _ => ⟨id, 0, rfl, by simp [rowEsz, hr], fun j x hx => by simp [cellAt, hr, hx]⟩⟩
theorem Acc.nil {R : RecV α k} {e : TypeId} {B : Nat} {M : Mem} : Acc R e B M (.slice none 0 0) [] := ⟨none, 0, 0, rfl, rfl, .inl ⟨rfl, rfl, rfl⟩⟩
theorem Acc.append {P : Program} {R : RecV α k} {e t tx : TypeId} {B b by_ : Nat} {S : St} {v x : Value} {l : List α} {a : α} {K : Value → Mem → Prop} (h : Acc R e B S.M v l) (hb : b ≤ B) (hB : B ≤ S.M.length) (hk : 0 < k) (hq : qSlice P t = some (e, k, by_))
    (hz : (P.info? e).any (fun i => i.zero.any fun z => z.cells.size == k) = true) (hs : srcOf P S.M k tx x = some (1, R.row a)) (h1 : (R.row a).all (fun u => u.oneCell') = true) (hn : (l.length + 1) * by_ ≤ 140737488355328) (hm : l.length + 1 ≤ maxLen)
    (hK : ∀ v' M', Acc R e B M' v' (l ++ [a]) → Same B S.M M' → K v' M') : appendK P b S K t tx v x := by
  obtain ⟨A, n, c, rfl, hl, hA⟩ := h
  subst hl
  unfold appendK
  rw [hq]
  simp only [ow_some]
  rw [hs]
  simp only [ow_some]
  refine ⟨hz, h1, ?_⟩
  rcases hA with ⟨rfl, h0, rfl⟩ | ⟨id, tt, rfl, hid, hr⟩
  · obtain rfl := List.eq_nil_of_length_eq_zero h0
    refine ⟨⟨rfl, rfl⟩, by simpa using hn, by simpa using hm, fun h => by omega, fun _ => hK _ _ ⟨_, _, _, rfl, rfl, .inr ⟨S.M.length, false, rfl, hB, ?_⟩⟩ ⟨by simp, fun i s _ hs => ?_⟩⟩
    · rw [getElem?_snoc_eq]; simp [cellsL]
    · rw [List.getElem?_append_left (List.getElem?_eq_some_iff.1 hs).1]; exact hs
  · have hlt := (List.getElem?_eq_some_iff.1 hr).1
    simp only [hr]
    refine ⟨⟨trivial, by rw [cellsL_len], trivial, trivial⟩, hn, hm, fun h => by omega, fun _ => ?_⟩
    split
    · refine hK _ _ ⟨_, _, _, rfl, by simp, .inr ⟨S.M.length, false, rfl, hB, ?_⟩⟩ ⟨by simp, fun i s _ hs => ?_⟩
      · rw [getElem?_snoc_eq, cellsL_snoc]
      · rw [List.getElem?_append_left (List.getElem?_eq_some_iff.1 hs).1]; exact hs
    · refine ⟨by omega, hK _ _ ⟨_, _, _, rfl, by simp, .inr ⟨S.M.length, false, rfl, hB, ?_⟩⟩ ⟨by simp, fun i s hi hs => ?_⟩⟩
      · rw [List.getElem?_append_right (by simp), List.length_set, Nat.sub_self, cellsL_snoc]; rfl
      · rw [List.getElem?_append_left (by simpa using (List.getElem?_eq_some_iff.1 hs).1), List.getElem?_set_ne (by omega)]; exact hs
theorem Same.refl (B : Nat) (M : Mem) : Same B M M := ⟨Nat.le_refl _, fun _ _ _ h => h⟩
/-- The value does not lie in row i. -/
def Apart (v : Value) (i : Nat) : Prop := ∀ (A : Option Addr) (n c : Nat) (a : Addr), v = .slice A n c → A = some a → i ≠ a.block
theorem apart_new {M : Mem} {i : Nat} {s : Slot} {n c : Nat} (h : M[i]? = some s) : Apart (.slice (some ⟨M.length, 0, none⟩) n c) i := by
  intro A n' c' a e ea
  injection e with e1
  subst e1
  injection ea with ea
  subst ea
  have := (List.getElem?_eq_some_iff.1 h).1
  show i ≠ M.length
  omega
theorem Acc.apart {R : RecV α k} {e : TypeId} {B : Nat} {M : Mem} {v : Value} {l : List α} (h : Acc R e B M v l) {i : Nat} (hi : M.length ≤ i) : Apart v i := by
  obtain ⟨A, n, c, rfl, hl, hA⟩ := h
  intro A' n' c' a e ea
  injection e with e1
  subst e1
  rcases hA with ⟨rfl, _⟩ | ⟨id, t, rfl, hid, hr⟩
  · cases ea
  · injection ea with ea
    subst ea
    have := (List.getElem?_eq_some_iff.1 hr).1
    show i ≠ id
    omega
theorem Acc.extend2 {P : Program} {R : RecV α k} {e t tx : TypeId} {B b by_ : Nat} {S : St} {v x : Value} {l ls : List α} {K : Value → Mem → Prop} (h : Acc R e B S.M v l) (hb : b ≤ B) (hB : B ≤ S.M.length) (hq : qSlice P t = some (e, k, by_))
    (hz : (P.info? e).any (fun i => i.zero.any fun z => z.cells.size == k) = true) (hs : srcOf P S.M k tx x = some (ls.length, cellsL R ls)) (h1 : (cellsL R ls).all (fun u => u.oneCell') = true) (hn : (l.length + ls.length) * by_ ≤ 140737488355328) (hm : l.length + ls.length ≤ maxLen)
    (hK : ∀ v' M', Acc R e B M' v' (l ++ ls) → Same B S.M M' → (∀ (i : Nat) s, Apart v i → S.M[i]? = some s → M'[i]? = some s ∧ Apart v' i) → K v' M') : appendK P b S K t tx v x := by
  obtain ⟨A, n, c, rfl, hl, hA⟩ := h
  subst hl
  unfold appendK
  rw [hq]
  simp only [ow_some]
  rw [hs]
  simp only [ow_some]
  refine ⟨hz, h1, ?_⟩
  rcases hA with ⟨rfl, h0, rfl⟩ | ⟨id, tt, rfl, hid, hr⟩
  · obtain rfl := List.eq_nil_of_length_eq_zero h0
    refine ⟨⟨rfl, rfl⟩, by simpa using hn, by simpa using hm, fun h => ?_, fun _ => hK _ _ ⟨_, _, _, rfl, by simp, .inr ⟨S.M.length, false, rfl, hB, ?_⟩⟩ ⟨by simp, fun i s _ hs => ?_⟩ fun i s ha hs => ⟨?_, apart_new hs⟩⟩
    · obtain rfl := List.eq_nil_of_length_eq_zero h
      exact hK _ _ .nil (.refl _ _) fun i s ha hs => ⟨hs, ha⟩
    · rw [getElem?_snoc_eq]; simp
    · rw [List.getElem?_append_left (List.getElem?_eq_some_iff.1 hs).1]; exact hs
    · rw [List.getElem?_append_left (List.getElem?_eq_some_iff.1 hs).1]; exact hs
  · have hlt := (List.getElem?_eq_some_iff.1 hr).1
    simp only [hr]
    refine ⟨⟨trivial, by rw [cellsL_len], trivial, trivial⟩, hn, hm, fun h => ?_, fun _ => ?_⟩
    · obtain rfl := List.eq_nil_of_length_eq_zero h
      exact hK _ _ ⟨_, _, _, rfl, by simp, .inr ⟨id, tt, rfl, hid, by simpa using hr⟩⟩ (.refl _ _) fun i s ha hs => ⟨hs, ha⟩
    split
    · refine hK _ _ ⟨_, _, _, rfl, by simp, .inr ⟨S.M.length, false, rfl, hB, ?_⟩⟩ ⟨by simp, fun i s _ hs => ?_⟩ fun i s ha hs => ⟨?_, apart_new hs⟩
      · rw [getElem?_snoc_eq, cellsL_append]
      · rw [List.getElem?_append_left (List.getElem?_eq_some_iff.1 hs).1]; exact hs
      · rw [List.getElem?_append_left (List.getElem?_eq_some_iff.1 hs).1]; exact hs
    · refine ⟨by omega, hK _ _ ⟨_, _, _, rfl, by simp, .inr ⟨S.M.length, false, rfl, hB, ?_⟩⟩ ⟨by simp, fun i s hi hs => ?_⟩ fun i s ha hs => ⟨?_, apart_new hs⟩⟩
      · rw [List.getElem?_append_right (by simp), List.length_set, Nat.sub_self, cellsL_append]; rfl
      · rw [List.getElem?_append_left (by simpa using (List.getElem?_eq_some_iff.1 hs).1), List.getElem?_set_ne (by omega)]; exact hs
      · have := ha _ _ _ _ rfl rfl
        rw [List.getElem?_append_left (by simpa using (List.getElem?_eq_some_iff.1 hs).1), List.getElem?_set_ne (Ne.symm (by simpa using this))]; exact hs
theorem Acc.extend {P : Program} {R : RecV α k} {e t tx : TypeId} {B b by_ : Nat} {S : St} {v x : Value} {l ls : List α} {K : Value → Mem → Prop} (h : Acc R e B S.M v l) (hb : b ≤ B) (hB : B ≤ S.M.length) (hq : qSlice P t = some (e, k, by_))
    (hz : (P.info? e).any (fun i => i.zero.any fun z => z.cells.size == k) = true) (hs : srcOf P S.M k tx x = some (ls.length, cellsL R ls)) (h1 : (cellsL R ls).all (fun u => u.oneCell') = true) (hn : (l.length + ls.length) * by_ ≤ 140737488355328) (hm : l.length + ls.length ≤ maxLen)
    (hK : ∀ v' M', Acc R e B M' v' (l ++ ls) → Same B S.M M' → K v' M') : appendK P b S K t tx v x := h.extend2 hb hB hq hz hs h1 hn hm fun v' M' a b _ => hK v' M' a b
theorem Acc.append2 {P : Program} {R : RecV α k} {e t tx : TypeId} {B b by_ : Nat} {S : St} {v x : Value} {l : List α} {a : α} {K : Value → Mem → Prop} (h : Acc R e B S.M v l) (hb : b ≤ B) (hB : B ≤ S.M.length) (_hk : 0 < k) (hq : qSlice P t = some (e, k, by_))
    (hz : (P.info? e).any (fun i => i.zero.any fun z => z.cells.size == k) = true) (hs : srcOf P S.M k tx x = some (1, R.row a)) (h1 : (R.row a).all (fun u => u.oneCell') = true) (hn : (l.length + 1) * by_ ≤ 140737488355328) (hm : l.length + 1 ≤ maxLen)
    (hK : ∀ v' M', Acc R e B M' v' (l ++ [a]) → Same B S.M M' → (∀ (i : Nat) s, Apart v i → S.M[i]? = some s → M'[i]? = some s ∧ Apart v' i) → K v' M') : appendK P b S K t tx v x :=
  h.extend2 (ls := [a]) hb hB hq hz (by rw [hs]; simp [cellsL]) (by simpa [cellsL] using h1) (by simpa using hn) (by simpa using hm) hK
theorem cloneX {P : Program} {R : RecV α k} {e t : TypeId} {B b by_ : Nat} {S : St} {ad : Addr} {n c : Nat} {l : List α} {K : Value → Mem → Prop} (h : Sl R S.M (some ad) n l) (hk : 0 < k) (hA : Acc R e B S.M (.slice (some ⟨B, 0, none⟩) 0 0) []) (hb : b ≤ B) (hB : B ≤ S.M.length) (hq : qSlice P t = some (e, k, by_)) (ht : ∃ e', P.underlying t = some (.slice e'))
    (hz : (P.info? e).any (fun i => i.zero.any fun z => z.cells.size == k) = true) (h1 : (cellsL R l).all (fun u => u.oneCell') = true) (hn : n * by_ ≤ 140737488355328) (hm : n ≤ maxLen) (hK : ∀ v' M', Acc R e B M' v' l → Same B S.M M' → K v' M') : appendK P b S K t t (.slice (some ⟨B, 0, none⟩) 0 0) (.slice (some ad) n c) := by
  have hl := h.1
  refine hA.extend (ls := l) hb hB hq hz (h.src hk ht) h1 (by simpa [hl] using hn) (by simpa [hl] using hm) ?_
  intro v' M' a b
  exact hK v' M' (by simpa using a) b
theorem Acc.fresh {R : RecV α k} {e : TypeId} {M M' : Mem} {v : Value} {l : List α} (h : Acc R e M.length M' v l) (hn : l.length ≤ 1099511627776) (hk : Keeps M M') : Fresh R M v M' l := by
  obtain ⟨A, n, c, rfl, hl, hA⟩ := h
  refine ⟨A, n, c, rfl, by omega, ?_⟩
  rcases hA with ⟨rfl, rfl, rfl⟩ | ⟨id, t, rfl, hid, hr⟩
  · exact ⟨⟨hl, fun h => by omega⟩, by simp, fun h => by omega, hk⟩
  · exact ⟨⟨hl, fun _ => ⟨id, 0, rfl, by simp [rowEsz, hr], fun j x hx => by simp [cellAt, hr, hx]⟩⟩, fun a e => by injection e with e; subst e; exact hid, fun _ => ⟨_, _, _, rfl, hr, rfl⟩, hk⟩
theorem OwL.nil {R : RecV α k} {lo hi : Nat} {M : Mem} : OwL R lo hi M (.slice none 0 0) [] := by
  refine ⟨none, 0, 0, rfl, by omega, ⟨rfl, fun h => by omega⟩, ?_, ?_⟩
  · intro a h; cases h
  · intro h; omega
end
end Go.Proofs.Ytgaiejaegimilaa

namespace Go.Proofs.Ytgaiejaegimilaa
open Go.RowKit
set_option linter.unusedVariables false
set_option linter.unusedSimpArgs false
set_option maxRecDepth 100000
attribute [local simp] List.getElem?_cons_zero
attribute [local irreducible] awCond awCall awLoop awDraw ow retQ retC resQ Keeps
def codeR : RecV Int 1 := ⟨fun n => [.int .u8 n], fun _ => rfl⟩
/-- The source in row g, behind k draws; cs: the bytes it reads. -/
def SrcAt (g : Nat) (M : Mem) (A : Option Addr) (n c : Nat) (cs : List Int) (k : Nat) : Prop :=
  ∃ seed : Int, M[g]? = some (.live ⟨[.slice A n c, iv k, .int .u64 seed], true, true, 156, 3⟩) ∧ Sl codeR M A n cs ∧ (∀ a, A = some a → 0 < n → a.block ≠ g) ∧ ∀ x, x ∈ cs → 0 ≤ x ∧ x ≤ 255
def UpdS (g : Nat) (M M' : Mem) : Prop := M'.length = M.length ∧ ∀ (i : Nat) s, i ≠ g → M[i]? = some s → M'[i]? = some s
theorem put_row {b : Nat} {M : Mem} {id p : Nat} {v : Value} {cs : List Value} {t : Bool} {e : TypeId} {z : Nat} (hr : M[id]? = some (.live ⟨cs, true, t, e, z⟩)) (hb : b ≤ id) (hp : p < cs.length) (h1 : oneV v = true) :
    putCells b M id p [v] = some (M.set id (.live ⟨cs.set p v, true, t, e, z⟩)) := by
  have := put_set (b := b) (M := M) (id := id) (p := p) (v := v) (cs := cs) (t := t) (e := e) (z := z) (List.getElem?_eq_some_iff.1 hr).1 hb hp h1
  rw [set_self hr] at this
  exact this
theorem cell_row {M : Mem} {id off : Nat} {r : Row} (h : id < M.length) : cellAt (M.set id (.live r)) id off = r.cells[off]? := by
  simp [cellAt, h]
theorem u8_in {x : Int} (h1 : 0 ≤ x) (h2 : x ≤ 255) : IntKind.u64.wrap x = x := by
  have e : (2 : Int) ^ IntKind.u64.bits = 18446744073709551616 := by decide
  have e2 : IntKind.u64.signed = false := rfl
  simp only [IntKind.wrap, e, e2]
  simp
  omega
theorem and_bd (a : Int) : 0 ≤ ((BitVec.ofInt IntKind.u64.bits a &&& BitVec.ofInt IntKind.u64.bits 255).toNat : Int) ∧ ((BitVec.ofInt IntKind.u64.bits a &&& BitVec.ofInt IntKind.u64.bits 255).toNat : Int) ≤ 255 := by
  have e : (BitVec.ofInt IntKind.u64.bits 255).toNat = 255 := by decide
  have := Nat.and_le_right (n := (BitVec.ofInt IntKind.u64.bits a).toNat) (m := (BitVec.ofInt IntKind.u64.bits 255).toNat)
  rw [BitVec.toNat_and]
  rw [e] at this ⊢
  omega
theorem shr40 (a : Int) : intV .shr .u64 a 40 = some (.int .u64 (a.fdiv (2 ^ 40))) := by rfl
def mask8 (a : Int) : Int := IntKind.u64.wrap ((BitVec.ofInt IntKind.u64.bits a &&& BitVec.ofInt IntKind.u64.bits 255).toNat : Int)
theorem mask8_bd (a : Int) : 0 ≤ mask8 a ∧ mask8 a ≤ 255 := by
  have h := and_bd a
  unfold mask8
  rw [u8_in h.1 h.2]
  exact h
theorem and255 (a : Int) : intV .and .u64 a 255 = some (.int .u64 (mask8 a)) := by rfl
theorem next_s {M : Mem} {b g k n c : Nat} {A : Option Addr} {cs : List Int} (h : SrcAt g M A n c cs k) (hb : b ≤ g) (hk : k ≤ 1099511627776) (hn : n ≤ 1099511627776) :
    Ctr Try.prog b 141 [.pointer (some ⟨g, 0, none⟩)] M fun r M' => (∃ x : Int, r = iv x ∧ 0 ≤ x ∧ x ≤ 255) ∧ SrcAt g M' A n c cs (k + 1) ∧ UpdS g M M' := by
  obtain ⟨seed, hr, hsl, hap, hcs⟩ := h
  have hgl := (List.getElem?_eq_some_iff.1 hr).1
  have a0 : cellAt M g 0 = some (.slice A n c) := by simp [cellAt, hr]
  have a1 : cellAt M g 1 = some (iv k) := by simp [cellAt, hr]
  have hput1 := put_row (b := b) (p := 1) (v := iv (k + 1)) hr hb (by simp) rfl
  obtain ⟨M1, hM1⟩ : ∃ M1 : Mem, M1 = M.set g (.live ⟨[.slice A n c, iv (k + 1), .int .u64 seed], true, true, 156, 3⟩) := ⟨_, rfl⟩
  have hput1' : putCells b M g 1 [iv (k + 1)] = some M1 := by rw [hput1, hM1]; rfl
  have hr1 : M1[g]? = some (.live ⟨[.slice A n c, iv (k + 1), .int .u64 seed], true, true, 156, 3⟩) := by rw [hM1, List.getElem?_set_self hgl]
  have hl1 : M1.length = M.length := by rw [hM1]; simp
  have hu1 : ∀ (i : Nat) x, i ≠ g → M[i]? = some x → M1[i]? = some x := fun i x hi hx => by rw [hM1, List.getElem?_set_ne (Ne.symm hi)]; exact hx
  clear hM1 hput1
  have a2 : cellAt M1 g 2 = some (.int .u64 seed) := by simp [cellAt, hr1]
  have hput2 := fun z : Int => put_row (b := b) (p := 2) (v := .int .u64 z) hr1 hb (by simp) rfl
  have C := fun (off : Nat) (cs : List Value) => cell_row (M := M1) (id := g) (off := off) (r := ⟨cs, true, true, 156, 3⟩) (by omega)
  have fin : ∀ (x z : Int), 0 ≤ x → x ≤ 255 → (0 ≤ x ∧ x ≤ 255) ∧ SrcAt g (M1.set g (.live ⟨[.slice A n c, iv (k + 1), .int .u64 z], true, true, 156, 3⟩)) A n c cs (k + 1) ∧ UpdS g M (M1.set g (.live ⟨[.slice A n c, iv (k + 1), .int .u64 z], true, true, 156, 3⟩)) := by
    intro x z h1 h2
    have hup : ∀ (i : Nat) y, i ≠ g → M[i]? = some y → (M1.set g (.live ⟨[.slice A n c, iv (k + 1), .int .u64 z], true, true, 156, 3⟩))[i]? = some y := fun i y hi hy => by rw [List.getElem?_set_ne (Ne.symm hi)]; exact hu1 i y hi hy
    refine ⟨⟨h1, h2⟩, ⟨z, by rw [List.getElem?_set_self (by omega)]; rfl, ⟨hsl.1, fun hp => ?_⟩, hap, hcs⟩, by simp [hl1], hup⟩
    obtain ⟨id, off, e, he, hc⟩ := hsl.2 hp
    have hne : id ≠ g := hap _ e hp
    have heq : ∀ y, M[id]? = some y → (M1.set g (.live ⟨[.slice A n c, iv (k + 1), .int .u64 z], true, true, 156, 3⟩))[id]? = some y := fun y hy => hup id y hne hy
    refine ⟨id, off, e, ?_, fun j y hy => ?_⟩
    · unfold rowEsz at he ⊢
      cases hm : M[id]? with
      | none => rw [hm] at he; cases he
      | some y => rw [heq y hm]; rw [hm] at he; exact he
    · have := hc j y hy
      unfold cellAt at this ⊢
      cases hm : M[id]? with
      | none => rw [hm] at this; cases this
      | some y => rw [heq y hm]; rw [hm] at this; exact this
  first | (refine ctr_fn Try.func141 rfl Try.ntmps141 Try.results141 rfl rfl (by simp) ?_) | (refine ctr_fnC Try.func141 rfl Try.ntmps141 Try.results141 rfl (by simp) ?_)
  simp
  refine awDraw_E 9 [[],[0],[1,0],[2,1,0],[],[4],[5,4],[6,5,4],[7,6,5,4],[3,2,1,0,8,7,6,5,4]] (by kernel_rfl) (by kernel_rfl) ?_
  simp [a0, a1]
  by_cases hkn : k < n
  · obtain ⟨id, off, rfl, he, hc⟩ := hsl.at_ hkn
    have hb0 : cellAt M id (off + k * 1) = some (.int .u8 (el cs k)) := hc 0 _ rfl
    simp only [Nat.mul_one] at hb0
    have hx := hcs _ (el_mem (l := cs) (i := k) (by have := hsl.1; omega))
    simp [hkn]
    refine awDraw_E 8 [[],[0],[1,0],[2,1,0],[],[4],[5,4],[6,5,4],[3,2,1,0,7,6,5,4],[8,3,2,1,0,7,6,5,4],[9,8,3,2,1,0,7,6,5,4],[10,9,8,3,2,1,0,7,6,5,4]] (by kernel_rfl) (by kernel_rfl) ?_
    have hw1 : (k : Int) + 1 ≤ n := by omega
    simp (disch := omega) [a0, a1, hkn, he, hb0, wrap_in, hput1', a2, hput2, C]
    refine awDraw_E 9 [[],[0],[1,0],[2,1,0],[],[4],[5,4],[6,5,4],[7,6,5,4],[3,2,1,0,8,7,6,5,4]] (by kernel_rfl) (by kernel_rfl) ?_
    simp (disch := omega) [C, wrap_in, hw1]
    exact fin _ _ hx.1 hx.2
  · simp (disch := omega) [hkn, a1, hput1', a2, hput2, wrap_in, C]
    refine awDraw_E 9 [[],[0],[1,0],[2,1,0],[],[4],[5,4],[6,5,4],[7,6,5,4],[3,2,1,0,8,7,6,5,4]] (by kernel_rfl) (by kernel_rfl) ?_
    have hw1 : ¬ (k : Int) + 1 ≤ n := by omega
    simp (disch := omega) [C, wrap_in, hw1]
    generalize IntKind.u64.wrap (IntKind.u64.wrap (IntKind.u64.wrap (seed * 6364136223846793005) + IntKind.u64.wrap 0) + 1442695040888963407) = Z
    have hx := mask8_bd (Z.fdiv (2 ^ 40))
    rw [shr40]
    generalize Z.fdiv (2 ^ 40) = Y at hx ⊢
    simp (disch := omega) [and255, wrap_in]
    exact fin _ _ hx.1 hx.2
theorem pick_s {M : Mem} {b g k n c : Nat} {A : Option Addr} {cs : List Int} (m : Int) (h : SrcAt g M A n c cs k) (hb : b ≤ g) (hk : k + 2 ≤ 1099511627776) (hn : n ≤ 1099511627776) (hm : m ≤ 1099511627776) :
    Ctr Try.prog b 105 [.pointer (some ⟨g, 0, none⟩), iv m] M fun r M' => ∃ (x : Int) (k' : Nat), r = iv x ∧ 0 ≤ x ∧ (x < m ∨ (m ≤ 1 ∧ x = 0)) ∧ k' ≤ k + 2 ∧ SrcAt g M' A n c cs k' ∧ UpdS g M M' := by
  first | (refine ctr_fn Try.func105 rfl Try.ntmps105 Try.results105 rfl rfl (by simp) ?_) | (refine ctr_fnC Try.func105 rfl Try.ntmps105 Try.results105 rfl (by simp) ?_)
  simp
  by_cases h1 : m ≤ 1
  · simp [h1]
    exact ⟨k, by omega, h, rfl, fun i s _ hs => hs⟩
  · simp [h1]
    refine awCall_ctr (next_s h hb (by omega) hn) ?_
    rintro r M1 ⟨⟨x, rfl, x0, x1⟩, h2, u1⟩
    have hmod : ∀ y : Int, 0 ≤ y → y.tmod m = y % m ∧ 0 ≤ y % m ∧ y % m < m := fun y hy => ⟨Int.tmod_eq_emod_of_nonneg hy, Int.emod_nonneg _ (by omega), Int.emod_lt_of_pos _ (by omega)⟩
    have hm0 : ¬ m = 0 := by omega
    by_cases h3 : 200 < m
    · simp (disch := omega) [h3, wrap_in]
      refine awCall_ctr (next_s h2 hb (by omega) hn) ?_
      rintro r M2 ⟨⟨y, rfl, y0, y1⟩, h4, u2⟩
      obtain ⟨e1, e2, e3⟩ := hmod (x * 256 + y) (by omega)
      simp (disch := omega) [wrap_in, hm0, e1]
      exact ⟨e2, .inl e3, k + 1 + 1, by omega, h4, u2.1.trans u1.1, fun i s hi hs => u2.2 i s hi (u1.2 i s hi hs)⟩
    · obtain ⟨e1, e2, e3⟩ := hmod x x0
      simp (disch := omega) [h3, wrap_in, hm0, e1]
      exact ⟨e2, .inl e3, k + 1, by omega, h2, u1⟩
end Go.Proofs.Ytgaiejaegimilaa

namespace Go.Proofs.Ytgaiejaegimilaa
open Go.RowKit
set_option linter.unusedVariables false
set_option linter.unusedSimpArgs false
set_option maxRecDepth 100000
attribute [local simp] List.getElem?_cons_zero
attribute [local irreducible] awCond awCall awLoop awDraw ow retQ retC resQ Keeps
theorem SrcAt.same {g : Nat} {M M' : Mem} {A : Option Addr} {n c : Nat} {cs : List Int} {k B : Nat} (h : SrcAt g M A n c cs k) (hs : Same B M M') (hg : g < B) (hA : ∀ a, A = some a → 0 < n → a.block < B) : SrcAt g M' A n c cs k := by
  obtain ⟨seed, hr, hsl, hap, hcs⟩ := h
  refine ⟨seed, hs.2 _ _ hg hr, ⟨hsl.1, fun hp => ?_⟩, hap, hcs⟩
  obtain ⟨id, off, e, he, hc⟩ := hsl.2 hp
  have hlt := hA _ e hp
  refine ⟨id, off, e, ?_, fun j y hy => ?_⟩
  · unfold rowEsz at he ⊢
    cases hm : M[id]? with
    | none => rw [hm] at he; cases he
    | some y => rw [hs.2 _ _ hlt hm]; rw [hm] at he; exact he
  · have := hc j y hy
    unfold cellAt at this ⊢
    cases hm : M[id]? with
    | none => rw [hm] at this; cases this
    | some y => rw [hs.2 _ _ hlt hm]; rw [hm] at this; exact this
/-- A source in row g, behind k draws; what it needs lies below B. -/
def Src (g B : Nat) (M : Mem) (k : Nat) : Prop := ∃ A n c cs, SrcAt g M A n c cs k ∧ g < B ∧ (∀ a, A = some a → 0 < n → a.block < B) ∧ n ≤ 1048576
theorem Src.same {g B k : Nat} {M M' : Mem} (h : Src g B M k) (hs : Same B M M') : Src g B M' k := by
  obtain ⟨A, n, c, cs, h1, h2, h3, h4⟩ := h
  exact ⟨A, n, c, cs, h1.same hs h2 h3, h2, h3, h4⟩
theorem Src.app {g B k : Nat} {M : Mem} (h : Src g B M k) (L : Mem) : Src g B (M ++ L) k :=
  h.same ⟨by simp, fun i s _ hs => by rw [List.getElem?_append_left (List.getElem?_eq_some_iff.1 hs).1]; exact hs⟩
theorem UpdS.acc {α : Type} {q : Nat} {R : RecV α q} {e : TypeId} {g B : Nat} {M M' : Mem} {v : Value} {l : List α} (u : UpdS g M M') (h : Acc R e B M v l) (hg : g < B) : Acc R e B M' v l := by
  obtain ⟨A, n, c, h1, h2, h3⟩ := h
  refine ⟨A, n, c, h1, h2, ?_⟩
  rcases h3 with h3 | ⟨id, t, h4, h5, h6⟩
  · exact .inl h3
  · exact .inr ⟨id, t, h4, h5, u.2 _ _ (by omega) h6⟩
theorem UpdS.same {g B : Nat} {M M' : Mem} (u : UpdS g M M') (h : B ≤ g) : Same B M M' := ⟨by rw [u.1]; exact Nat.le_refl _, fun i s hi hs => u.2 i s (by omega) hs⟩
theorem Same.trans {B : Nat} {M M1 M2 : Mem} (h : Same B M M1) (h' : Same B M1 M2) : Same B M M2 := ⟨Nat.le_trans h.1 h'.1, fun i s hi hs => h'.2 i s hi (h.2 i s hi hs)⟩
theorem Same.low {B B' : Nat} {M M' : Mem} (h : Same B M M') (hb : B' ≤ B) : Same B' M M' := ⟨h.1, fun i s hi hs => h.2 i s (by omega) hs⟩
theorem Src.pick {M : Mem} {b g k B : Nat} (m : Int) (h : Src g B M k) (hb : b ≤ g) (hk : k + 2 ≤ 1099511627776) (hm : m ≤ 1099511627776) :
    Ctr Try.prog b 105 [.pointer (some ⟨g, 0, none⟩), iv m] M fun r M' => ∃ (x : Int) (k' : Nat), r = iv x ∧ 0 ≤ x ∧ (x < m ∨ (m ≤ 1 ∧ x = 0)) ∧ k' ≤ k + 2 ∧ Src g B M' k' ∧ UpdS g M M' := by
  obtain ⟨A, n, c, cs, h1, h2, h3, h4⟩ := h
  refine (pick_s m h1 hb hk (by omega) hm).mono fun r M' ⟨x, k', a1, a2, a3, a4, a5, a6⟩ => ⟨x, k', a1, a2, a3, a4, ⟨A, n, c, cs, a5, h2, h3, h4⟩, a6⟩
theorem src_build (A : Option Addr) (n c : Nat) : Instr.fill (fun x => [(0, 1), (1, 1), (2, 1)][x]?) #[.slice none 0 0, .int .i64 0, .int .u64 0] [(0, .slice A n c)] = some #[.slice A n c, .int .i64 0, .int .u64 0] := by rfl
theorem l00From_a {M : Mem} {A : Option Addr} {n c : Nat} {cs : List Int} (h : Sl codeR M A n cs) (hn : n ≤ 1048576) (hcs : ∀ x, x ∈ cs → 0 ≤ x ∧ x ≤ 255) : Det Try.prog M.length 64 [.slice A n c] M (.pointer (some ⟨M.length, 0, none⟩)) (M ++ [.live ⟨[.slice A n c, iv 0, .int .u64 0], true, true, 156, 3⟩]) := by
  refine Ctr.det ?_
  first | (refine ctr_fn Try.func64 rfl Try.ntmps64 Try.results64 rfl rfl (by simp) ?_) | (refine ctr_fnC Try.func64 rfl Try.ntmps64 Try.results64 rfl (by simp) ?_)
  simp [src_build]
theorem src_new {M : Mem} {A : Option Addr} {n c : Nat} {cs : List Int} (h : Sl codeR M A n cs) (hn : n ≤ 1048576) (hcs : ∀ x, x ∈ cs → 0 ≤ x ∧ x ≤ 255) : Src M.length (M.length + 1) (M ++ [.live ⟨[.slice A n c, iv 0, .int .u64 0], true, true, 156, 3⟩]) 0 :=
  ⟨A, n, c, cs, ⟨0, by rw [getElem?_snoc_eq]; rfl, h.app _, fun a e hp => by obtain ⟨b, e', hb⟩ := h.lt hp; rw [e] at e'; cases e'; omega, hcs⟩, by omega, fun a e hp => by obtain ⟨b, e', hb⟩ := h.lt hp; rw [e] at e'; cases e'; omega, hn⟩
end Go.Proofs.Ytgaiejaegimilaa

namespace Go.Proofs.Ytgaiejaegimilaa
open Go.RowKit
set_option linter.unusedVariables false
set_option linter.unusedSimpArgs false
set_option maxRecDepth 100000
attribute [local simp] List.getElem?_cons_zero
attribute [local irreducible] awCond awCall awLoop awDraw ow retQ retC resQ Keeps
theorem UpdS.sl {α : Type} {q : Nat} {R : RecV α q} {g n : Nat} {M M' : Mem} {A : Option Addr} {l : List α} (u : UpdS g M M') (h : Sl R M A n l) (hA : ∀ a, A = some a → 0 < n → a.block ≠ g) : Sl R M' A n l := by
  refine ⟨h.1, fun hp => ?_⟩
  obtain ⟨id, off, e, he, hc⟩ := h.2 hp
  have hne := hA _ e hp
  have up : ∀ s, M[id]? = some s → M'[id]? = some s := fun s hs => u.2 id s hne hs
  refine ⟨id, off, e, ?_, fun j y hy => ?_⟩
  · unfold rowEsz at he ⊢
    cases hm : M[id]? with
    | none => rw [hm] at he; cases he
    | some y => rw [up y hm]; rw [hm] at he; exact he
  · have := hc j y hy
    unfold cellAt at this ⊢
    cases hm : M[id]? with
    | none => rw [hm] at this; cases this
    | some y => rw [up y hm]; rw [hm] at this; exact this
theorem among_s {M : Mem} {b g k B n c : Nat} {A : Option Addr} {l : List Int} (h : Src g B M k) (hb : b ≤ g) (hk : k + 2 ≤ 1099511627776) (hl : Sl intR M A n l) (hA : ∀ a, A = some a → 0 < n → a.block ≠ g) (h0 : 0 < n) (hn : n ≤ 1099511627776) :
    Ctr Try.prog b 109 [.pointer (some ⟨g, 0, none⟩), .slice A n c] M fun r M' => ∃ (x : Int) (k' : Nat), r = iv x ∧ x ∈ l ∧ k' ≤ k + 2 ∧ Src g B M' k' ∧ UpdS g M M' := by
  have hll := hl.1
  first | (refine ctr_fn Try.func109 rfl Try.ntmps109 Try.results109 rfl rfl (by simp) ?_) | (refine ctr_fnC Try.func109 rfl Try.ntmps109 Try.results109 rfl (by simp) ?_)
  simp
  refine awCall_ctr (h.pick n hb hk (by omega)) ?_
  rintro r M1 ⟨x, k1, rfl, x0, x1, hk1, h1, u1⟩
  obtain ⟨q, rfl⟩ := Int.eq_ofNat_of_zero_le x0
  have hq : q < n := by omega
  obtain ⟨id, off, rfl, he, hc⟩ := (u1.sl hl hA).at_ hq
  have c0 : cellAt M1 id (off + q * 1) = some (iv (el l q)) := hc 0 _ rfl
  simp only [Nat.mul_one] at c0
  simp (disch := omega) [hq, he, c0]
  exact ⟨el_mem (by omega), k1, hk1, h1, u1⟩
end Go.Proofs.Ytgaiejaegimilaa

namespace Go.Proofs.Ytgaiejaegimilaa
open Go.RowKit
set_option linter.unusedVariables false
set_option linter.unusedSimpArgs false
set_option maxRecDepth 100000
attribute [local simp] List.getElem?_cons_zero
attribute [local irreducible] awCond awCall awLoop awDraw ow retQ retC resQ Keeps
theorem put_box {b : Nat} {M : Mem} {vs cs : List Value} {t : Bool} {e : TypeId} {z : Nat} (hb : b ≤ M.length) (hl : vs.length = cs.length) (h1 : vs.all oneV = true) :
    putCells b (M ++ [.live ⟨cs, true, t, e, z⟩]) M.length 0 vs = some (M ++ [.live ⟨vs, true, t, e, z⟩]) := by
  rw [put_whole getElem?_snoc_eq hb hl h1]
  simp
theorem Same.app (B : Nat) (M L : Mem) : Same B M (M ++ L) := ⟨by simp, fun i s _ hs => by rw [List.getElem?_append_left (List.getElem?_eq_some_iff.1 hs).1]; exact hs⟩
theorem Acc.box {α : Type} {q : Nat} {R : RecV α q} {e : TypeId} {g B : Nat} {M M' : Mem} {s s' : Slot} {v : Value} {l : List α} (h : Acc R e B M v l) (hg : g < B) (u : UpdS g (M ++ [s]) M') : Acc R e B (M'.set M.length s') v l := by
  obtain ⟨A, n, c, h1, h2, h3⟩ := h
  refine ⟨A, n, c, h1, h2, ?_⟩
  rcases h3 with h3 | ⟨id, t, h4, h5, h6⟩
  · exact .inl h3
  · have hlt := (List.getElem?_eq_some_iff.1 h6).1
    exact .inr ⟨id, t, h4, h5, by rw [List.getElem?_set_ne (by omega)]; exact u.2 _ _ (by omega) (by rw [List.getElem?_append_left hlt]; exact h6)⟩
end Go.Proofs.Ytgaiejaegimilaa

namespace Go.Proofs.Ytgaiejaegimilaa
open Go.RowKit
set_option linter.unusedVariables false
set_option linter.unusedSimpArgs false
set_option maxRecDepth 100000
attribute [local simp] List.getElem?_cons_zero
attribute [local irreducible] awCond awCall awLoop awDraw ow retQ retC resQ Keeps
/-- Row g alone may have turned; more may lie behind. -/
def Grow (g : Nat) (M M' : Mem) : Prop := M.length ≤ M'.length ∧ ∀ (i : Nat) s, i ≠ g → M[i]? = some s → M'[i]? = some s
theorem Grow.refl (g : Nat) (M : Mem) : Grow g M M := ⟨Nat.le_refl _, fun _ _ _ h => h⟩
theorem Grow.trans {g : Nat} {M M1 M2 : Mem} (h : Grow g M M1) (h' : Grow g M1 M2) : Grow g M M2 := ⟨Nat.le_trans h.1 h'.1, fun i s hi hs => h'.2 i s hi (h.2 i s hi hs)⟩
theorem Grow.app (g : Nat) (M L : Mem) : Grow g M (M ++ L) := ⟨by simp, fun i s _ hs => by rw [List.getElem?_append_left (List.getElem?_eq_some_iff.1 hs).1]; exact hs⟩
theorem UpdS.grow {g : Nat} {M M' : Mem} (u : UpdS g M M') : Grow g M M' := ⟨Nat.le_of_eq u.1.symm, u.2⟩
theorem Grow.same {g B : Nat} {M M' : Mem} (u : Grow g M M') (h : B ≤ g) : Same B M M' := ⟨u.1, fun i s hi hs => u.2 i s (by omega) hs⟩
theorem Grow.acc {α : Type} {q : Nat} {R : RecV α q} {e : TypeId} {g B : Nat} {M M' : Mem} {v : Value} {l : List α} (u : Grow g M M') (h : Acc R e B M v l) (hg : g < B) : Acc R e B M' v l := by
  obtain ⟨A, n, c, h1, h2, h3⟩ := h
  refine ⟨A, n, c, h1, h2, ?_⟩
  rcases h3 with h3 | ⟨id, t, h4, h5, h6⟩
  · exact .inl h3
  · exact .inr ⟨id, t, h4, h5, u.2 _ _ (by omega) h6⟩
theorem Same.grow {g B : Nat} {M M' : Mem} (h : Same B M M') (k : ∀ (i : Nat) s, i ≠ g → B ≤ i → M[i]? = some s → M'[i]? = some s) : Grow g M M' :=
  ⟨h.1, fun i s hi hs => (Nat.lt_or_ge i B).elim (fun hb => h.2 i s hb hs) fun hb => k i s hi hb hs⟩
theorem Src.lt {g B k : Nat} {M : Mem} (h : Src g B M k) : g < B := by obtain ⟨_, _, _, _, _, h, _⟩ := h; exact h
theorem nextS {M : Mem} {b g k B : Nat} (h : Src g B M k) (hb : b ≤ g) (hk : k ≤ 1099511627776) :
    Ctr Try.prog b 141 [.pointer (some ⟨g, 0, none⟩)] M fun r M' => ∃ x : Int, r = iv x ∧ 0 ≤ x ∧ x ≤ 255 ∧ Src g B M' (k + 1) ∧ UpdS g M M' := by
  obtain ⟨A, n, c, cs, h1, h2, h3, h4⟩ := h
  exact (next_s h1 hb hk (by omega)).mono fun r M' ⟨⟨x, a1, a2, a3⟩, a4, a5⟩ => ⟨x, a1, a2, a3, ⟨A, n, c, cs, a4, h2, h3, h4⟩, a5⟩
theorem fill4 (a b c d : Int) : Instr.fill (fun i => some (i, 1)) (zrow [iv 0] 4).toArray [(0, iv a), (1, iv b), (2, iv c), (3, iv d)] = some #[iv a, iv b, iv c, iv d] := by rfl
theorem fill1 {z : Value} {kd : IntKind} {n : Int} : Instr.fill (fun i => some (i, 1)) (zrow [z] 1).toArray [(0, .int kd n)] = some #[.int kd n] := by
  have := fill_int (z := z) (kd := kd) (n := n)
  simpa using this
theorem fill_ints {k : IntKind} (l : List Int) {n : Nat} (hn : l.length = n) : Instr.fill (fun i => some (i, 1)) (zrow [.int k 0] n).toArray (((l.map (Value.int k)).zipIdx 0).map fun x => (x.2, x.1)) = some (l.map (Value.int k)).toArray := by
  have h := Go.Great.fill_whole (s := 1) (by omega) (l.map (Value.int k)) (zrow [.int k 0] n).toArray (fun v hv => by obtain ⟨x, -, rfl⟩ := List.mem_map.1 hv; rfl) (by simp [zrow, hn])
  simp only [Nat.mul_one] at h
  rw [h]
  congr 2
  clear h hn
  induction l with
  | nil => rfl
  | cons a l ih => simp only [List.map_cons, List.flatMap_cons, ih, cells_int]; rfl
theorem fill6 (a b c d e f : Int) : Instr.fill (fun i => some (i, 1)) (zrow [iv 0] 6).toArray [(0, iv a), (1, iv b), (2, iv c), (3, iv d), (4, iv e), (5, iv f)] = some #[iv a, iv b, iv c, iv d, iv e, iv f] :=
  fill_ints (k := .i64) [a, b, c, d, e, f] rfl
end Go.Proofs.Ytgaiejaegimilaa

namespace Go.Proofs.Ytgaiejaegimilaa
open Go.RowKit
set_option linter.unusedVariables false
set_option linter.unusedSimpArgs false
set_option maxRecDepth 100000
attribute [local simp] List.getElem?_cons_zero
attribute [local irreducible] awCond awCall awLoop awDraw ow retQ retC resQ Keeps
theorem among_new {M : Mem} {b g k B : Nat} {cs : List Value} (l : List Int) {n : Nat} (hc : cs = cellsL intR l) (h : Src g B M k) (hb : b ≤ g) (hk : k + 2 ≤ 1099511627776) (h0 : 0 < n) (hn : n ≤ 100) (hl : l.length = n) (hB : B ≤ M.length) :
    Ctr Try.prog b 109 [.pointer (some ⟨g, 0, none⟩), .slice (some ⟨M.length, 0, none⟩) n n] (M ++ [.live ⟨cs, true, true, 2, 1⟩]) fun r M' => ∃ (x : Int) (k' : Nat), r = iv x ∧ x ∈ l ∧ k' ≤ k + 2 ∧ Src g B M' k' ∧ Grow g M M' := by
  subst hc
  have hg := h.lt
  have hsl : Sl intR (M ++ [.live ⟨cellsL intR l, true, true, 2, 1⟩]) (some ⟨M.length, 0, none⟩) n l := Sl.new hl
  refine (among_s (c := n) (h.app _) hb hk hsl (fun a e _ => by injection e with e; subst e; show M.length ≠ g; omega) h0 (by omega)).mono ?_
  rintro r M' ⟨x, k', rfl, hx, hk', hS, u⟩
  exact ⟨x, k', rfl, hx, hk', hS, (Grow.app g M _).trans u.grow⟩
theorem cell_hr {M : Mem} {id : Nat} {r : Row} (h : M[id]? = some (.live r)) (off : Nat) : cellAt M id off = r.cells[off]? := by simp [cellAt, h]
theorem cells_hr {M : Mem} {id n : Nat} {r : Row} (h : M[id]? = some (.live r)) (hn : n = r.cells.length) : cellsAt M id 0 n = some r.cells := by
  subst hn
  simp [cellsAt, h]
theorem set_get {M : Mem} {id : Nat} {s : Slot} (h : id < M.length) : (M.set id s)[id]? = some s := List.getElem?_set_self h
theorem Same.set {B id : Nat} {M : Mem} {s : Slot} (h : B ≤ id) : Same B M (M.set id s) := ⟨by simp, fun i t hi ht => by rw [List.getElem?_set_ne (by omega)]; exact ht⟩
theorem fill9 (a b c d e f g h i : Int) : Instr.fill (fun i => some (i, 1)) (zrow [iv 0] 9).toArray [(0, iv a), (1, iv b), (2, iv c), (3, iv d), (4, iv e), (5, iv f), (6, iv g), (7, iv h), (8, iv i)] = some #[iv a, iv b, iv c, iv d, iv e, iv f, iv g, iv h, iv i] :=
  fill_ints (k := .i64) [a, b, c, d, e, f, g, h, i] rfl
theorem fill8 (a b c d e f g h : Int) : Instr.fill (fun i => some (i, 1)) (zrow [iv 0] 8).toArray [(0, iv a), (1, iv b), (2, iv c), (3, iv d), (4, iv e), (5, iv f), (6, iv g), (7, iv h)] = some #[iv a, iv b, iv c, iv d, iv e, iv f, iv g, iv h] :=
  fill_ints (k := .i64) [a, b, c, d, e, f, g, h] rfl
theorem fill5 (a b c d e : Int) : Instr.fill (fun i => some (i, 1)) (zrow [iv 0] 5).toArray [(0, iv a), (1, iv b), (2, iv c), (3, iv d), (4, iv e)] = some #[iv a, iv b, iv c, iv d, iv e] :=
  fill_ints (k := .i64) [a, b, c, d, e] rfl
end Go.Proofs.Ytgaiejaegimilaa

namespace Go.Proofs.Ytgaiejaegimilaa
open Go.RowKit
set_option linter.unusedVariables false
set_option linter.unusedSimpArgs false
set_option maxRecDepth 100000
attribute [local simp] List.getElem?_cons_zero
attribute [local irreducible] awCond awCall awLoop awDraw ow retQ retC resQ Keeps
theorem within_a {M : Mem} (n lo hi : Int) : Det Try.prog M.length 80 [iv n, iv lo, iv hi] M (.bool (inB n lo hi)) M := by
  first | (refine det_fn Try.func80 rfl Try.ntmps80 Try.results80 rfl rfl rfl (by simp) ?_) | (refine det_fnC Try.func80 rfl Try.ntmps80 Try.results80 rfl rfl (by simp) ?_)
  simp
  repeat' (first | (refine guardV_split ?_ ?_ <;> intro _) | (simp [*]))
  all_goals (simp_all [inB, Keeps.refl] <;> omega)
theorem l00In_a {M : Mem} (n lo hi : Int) : Det Try.prog M.length 74 [iv n, iv lo, iv hi] M (.bool (inB n lo hi)) M := by
  first | (refine det_fn Try.func74 rfl Try.ntmps74 Try.results74 rfl rfl rfl (by simp) ?_) | (refine det_fnC Try.func74 rfl Try.ntmps74 Try.results74 rfl rfl (by simp) ?_)
  simp
  repeat' (first | (refine guardV_split ?_ ?_ <;> intro _) | (simp [*]))
  all_goals (simp_all [inB, Keeps.refl] <;> omega)
theorem isKey_a {M : Mem} (n : Int) : Det Try.prog M.length 145 [iv n] M (.bool (inB n 0 127)) M := by
  first | (refine det_fn Try.func145 rfl Try.ntmps145 Try.results145 rfl rfl rfl (by simp) ?_) | (refine det_fnC Try.func145 rfl Try.ntmps145 Try.results145 rfl rfl (by simp) ?_)
  simp
  refine awCall_det' (within_a _ _ _) (by simp) ?_
  simp [Keeps.refl]
end Go.Proofs.Ytgaiejaegimilaa
