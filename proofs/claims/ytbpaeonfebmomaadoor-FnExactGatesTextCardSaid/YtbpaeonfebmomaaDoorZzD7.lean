/- Parts of the proof, together: Lists of records in memory, over abstract states; numbers within bounds. Lists that grow by append. Bytes and strings; the text of a number, as the library and as the reference write it. strconv.FormatInt at this program: where the contract of the library lies (seat r14.D's own numbers), and the contract over abstract states. A number's text: the reference's, and the program's. Contracts of the sm No conditions. -/
import Derived.Test.YtbpaeonfebmomaaDoorZzD6
import Derived.IntWalk
import Derived.Lib.ItoaLen
import Derived.Shelf.Strconv.Itoa4
namespace Go.Proofs.YtbpaeonfebmomaaDoor
open Go.RowKit
set_option linter.unusedVariables false
set_option linter.unusedSimpArgs false
set_option maxRecDepth 100000
attribute [local simp] List.getElem?_cons_zero
attribute [local irreducible] awCond awCall awLoop awDraw ow retQ retC resQ Keeps

abbrev iv (n : Int) : Value := .int .i64 n
/-- A record of k cells. -/
structure RecV (α : Type) (k : Nat) where
  row : α → List Value
  len : ∀ a, (row a).length = k
def el {α : Type} [Inhabited α] (l : List α) (i : Nat) : α := l.getD i default
section
variable {α : Type} {k : Nat}
theorem el_eq [Inhabited α] {l : List α} {i : Nat} (h : i < l.length) : l[i] = el l i := by simp [el, h]
theorem el_some [Inhabited α] {l : List α} {i : Nat} (h : i < l.length) : l[i]? = some (el l i) := by rw [List.getElem?_eq_getElem h, el_eq h]
theorem take_el [Inhabited α] {l : List α} {i : Nat} (h : i < l.length) : l.take (i + 1) = l.take i ++ [el l i] := by
  rw [List.take_succ_eq_append_getElem h, el_eq]
theorem drop_el [Inhabited α] {l : List α} {i : Nat} (h : i < l.length) : l.drop i = el l i :: l.drop (i + 1) := by
  rw [List.drop_eq_getElem_cons h, el_eq]
theorem el_append_left [Inhabited α] {l m : List α} {i : Nat} (h : i < l.length) : el (l ++ m) i = el l i := by
  unfold el; simp only [List.getD_eq_getElem?_getD]; rw [List.getElem?_append_left h]
theorem el_append_right [Inhabited α] {l m : List α} {i : Nat} (h : l.length ≤ i) : el (l ++ m) i = el m (i - l.length) := by
  unfold el; simp only [List.getD_eq_getElem?_getD]; rw [List.getElem?_append_right h]
theorem el_mem [Inhabited α] {l : List α} {i : Nat} (h : i < l.length) : el l i ∈ l := by rw [← el_eq h]; exact List.getElem_mem h
def cellsL (R : RecV α k) (l : List α) : List Value := l.flatMap R.row
theorem cellsL_len (R : RecV α k) (l : List α) : (cellsL R l).length = l.length * k := by
  unfold cellsL
  induction l with
  | nil => simp
  | cons a l ih => rw [List.flatMap_cons, List.length_append, ih, R.len, List.length_cons, Nat.add_mul]; omega
theorem cellsL_nil (R : RecV α k) : cellsL R [] = [] := rfl
theorem cellsL_cons (R : RecV α k) (a : α) (l : List α) : cellsL R (a :: l) = R.row a ++ cellsL R l := by simp [cellsL]
theorem cellsL_append (R : RecV α k) (l m : List α) : cellsL R (l ++ m) = cellsL R l ++ cellsL R m := by simp [cellsL]
theorem cellsL_snoc (R : RecV α k) (l : List α) (a : α) : cellsL R (l ++ [a]) = cellsL R l ++ R.row a := by simp [cellsL]
theorem cellsL_take (R : RecV α k) : ∀ (l : List α) (n : Nat), cellsL R (l.take n) = (cellsL R l).take (n * k)
  | [], n => by simp [cellsL]
  | a :: l, 0 => by simp [cellsL]
  | a :: l, n + 1 => by
    rw [List.take_succ_cons, cellsL_cons, cellsL_cons, cellsL_take R l n, List.take_append, R.len, Nat.add_mul, Nat.one_mul, List.take_of_length_le (l := R.row a) (by rw [R.len]; omega), show n * k + k - k = n * k by omega]
theorem cellsL_drop (R : RecV α k) : ∀ (l : List α) (n : Nat), cellsL R (l.drop n) = (cellsL R l).drop (n * k)
  | [], n => by simp [cellsL]
  | a :: l, 0 => by simp
  | a :: l, n + 1 => by
    rw [List.drop_succ_cons, cellsL_cons, cellsL_drop R l n, List.drop_append, R.len, Nat.add_mul, Nat.one_mul, List.drop_of_length_le (l := R.row a) (by rw [R.len]; omega), show n * k + k - k = n * k by omega, List.nil_append]
theorem cellsL_get [Inhabited α] (R : RecV α k) {l : List α} {i j : Nat} (hi : i < l.length) (hj : j < k) : (cellsL R l)[i * k + j]? = (R.row (el l i))[j]? := by
  have h1 : l = l.take i ++ (el l i :: l.drop (i + 1)) := by
    conv => lhs; rw [← List.take_append_drop i l, drop_el hi]
  have h2 : cellsL R l = cellsL R (l.take i) ++ (R.row (el l i) ++ cellsL R (l.drop (i + 1))) := by
    conv => lhs; rw [h1]
    rw [cellsL_append, cellsL_cons]
  rw [h2]
  have hl : (cellsL R (l.take i)).length = i * k := by rw [cellsL_len, List.length_take, Nat.min_eq_left (by omega)]
  rw [List.getElem?_append_right (by omega), hl, List.getElem?_append_left (by rw [R.len]; omega)]
  congr 1
  omega
theorem cellsL_zrow (R : RecV α k) (a : α) : ∀ n, zrow (R.row a) n = cellsL R (List.replicate n a)
  | 0 => rfl
  | n + 1 => by rw [zrow_succ, List.replicate_succ, cellsL_cons, cellsL_zrow R a n]

/-- Cells that lie behind a place. -/
def Cl (M : Mem) (id off : Nat) (xs : List Value) : Prop := ∀ (j : Nat) x, xs[j]? = some x → cellAt M id (off + j) = some x
theorem Cl.app {M : Mem} {id off : Nat} {xs : List Value} (h : Cl M id off xs) (L : Mem) : Cl (M ++ L) id off xs := fun j x hx => cellAt_app (h j x hx) L
theorem cellAt_keeps {M M' : Mem} {id off : Nat} {v : Value} (hk : Keeps M M') (h : cellAt M id off = some v) : cellAt M' id off = some v := by
  unfold cellAt at h ⊢
  cases hm : M[id]? with
  | none => rw [hm] at h; cases h
  | some s => rw [hk.get hm]; rw [hm] at h; exact h
theorem Cl.keeps {M M' : Mem} {id off : Nat} {xs : List Value} (h : Cl M id off xs) (hk : Keeps M M') : Cl M' id off xs := fun j x hx => cellAt_keeps hk (h j x hx)
theorem cellsAt_of {M : Mem} {id off n : Nat} {xs : List Value} (h : Cl M id off xs) (hl : xs.length = n) (h0 : 0 < n) : cellsAt M id off n = some xs := by
  have hx0 : xs[0]? = some xs[0] := List.getElem?_eq_getElem (by omega)
  have h1 := h 0 _ hx0
  unfold cellAt at h1
  unfold cellsAt
  cases hm : M[id]? with
  | none => rw [hm] at h1; cases h1
  | some s =>
    cases s with
    | live r =>
      have at_ : ∀ (j : Nat) x, xs[j]? = some x → r.cells[off + j]? = some x := fun j x hx => by
        have := h j x hx
        unfold cellAt at this
        rw [hm] at this
        exact this
      have hle : off + n ≤ r.cells.length := by
        have hl1 : xs[n - 1]? = some (xs[n - 1]'(by omega)) := List.getElem?_eq_getElem (by omega)
        have := (List.getElem?_eq_some_iff.1 (at_ _ _ hl1)).1
        omega
      simp only
      rw [if_pos hle]
      congr 1
      apply List.ext_getElem?
      intro j
      by_cases hj : j < n
      · rw [List.getElem?_take, if_pos hj, List.getElem?_drop]
        have hxj : xs[j]? = some (xs[j]'(by omega)) := List.getElem?_eq_getElem (by omega)
        rw [at_ j _ hxj, hxj]
      · rw [List.getElem?_take, if_neg hj, List.getElem?_eq_none (by omega)]
    | dead => rw [hm] at h1; cases h1
    | hole => rw [hm] at h1; cases h1

/-- The slice .slice A n c reads in M as the records l. -/
def Sl (R : RecV α k) (M : Mem) (A : Option Addr) (n : Nat) (l : List α) : Prop :=
  l.length = n ∧ (0 < n → ∃ id off, A = some ⟨id, off, none⟩ ∧ rowEsz M id = some k ∧ Cl M id off (cellsL R l))
theorem Sl.at_ [Inhabited α] {R : RecV α k} {M : Mem} {A : Option Addr} {n : Nat} {l : List α} (h : Sl R M A n l) {i : Nat} (hi : i < n) :
    ∃ id off, A = some ⟨id, off, none⟩ ∧ rowEsz M id = some k ∧ Cl M id (off + i * k) (R.row (el l i)) := by
  obtain ⟨id, off, e, he, hc⟩ := h.2 (by omega)
  refine ⟨id, off, e, he, fun j x hx => ?_⟩
  have hj : j < k := by have := (List.getElem?_eq_some_iff.1 hx).1; rwa [R.len] at this
  rw [Nat.add_assoc]
  exact hc _ _ (by rw [cellsL_get R (by rw [h.1]; exact hi) hj]; exact hx)
theorem rowEsz_keeps {M M' : Mem} {id k : Nat} (hk : Keeps M M') (h : rowEsz M id = some k) : rowEsz M' id = some k := by
  unfold rowEsz at h ⊢
  cases hm : M[id]? with
  | none => rw [hm] at h; cases h
  | some s => rw [hk.get hm]; rw [hm] at h; exact h
theorem Sl.keeps {R : RecV α k} {M M' : Mem} {A : Option Addr} {n : Nat} {l : List α} (h : Sl R M A n l) (hk : Keeps M M') : Sl R M' A n l :=
  ⟨h.1, fun hn => by
    obtain ⟨id, off, e, he, hc⟩ := h.2 hn
    exact ⟨id, off, e, rowEsz_keeps hk he, hc.keeps hk⟩⟩
theorem Sl.app {R : RecV α k} {M : Mem} {A : Option Addr} {n : Nat} {l : List α} (h : Sl R M A n l) (L : Mem) : Sl R (M ++ L) A n l := h.keeps (keeps_app L)
theorem splice_app : ∀ (ws xs ys : List Value), ws.length ≤ ys.length → splice (xs ++ ys) xs.length ws = xs ++ (ws ++ ys.drop ws.length)
  | [], xs, ys, _ => by simp
  | w :: ws, xs, [], h => by simp at h
  | w :: ws, xs, y :: ys, h => by
    rw [splice_cons]
    have e : (xs ++ y :: ys).set xs.length w = (xs ++ [w]) ++ ys := by simp [List.set_append_right]
    have := splice_app ws (xs ++ [w]) ys (by simpa using h)
    rw [e, show xs.length + 1 = (xs ++ [w]).length by simp, this]
    simp
theorem splice_rec (R : RecV α k) {xs : List α} {m : Nat} {z : List Value} {a : α} (hz : z.length = k) : splice (cellsL R xs ++ zrow z (m + 1)) (xs.length * k) (R.row a) = cellsL R (xs ++ [a]) ++ zrow z m := by
  rw [← cellsL_len R xs, splice_app _ _ _ (by rw [R.len, zrow_succ, List.length_append]; omega), R.len, zrow_succ, List.drop_append_of_le_length (by omega), List.drop_of_length_le (by omega), cellsL_snoc]
  simp
theorem all_oneV_of {vs : List Value} (h : ∀ v ∈ vs, oneV v = true) : vs.all oneV = true := List.all_eq_true.2 h
theorem putCells_rec (R : RecV α k) {b : Nat} {M : Mem} {xs : List α} {m i : Nat} {z : List Value} {a : α} {t : Bool} {e : TypeId} (hb : b ≤ M.length) (hz : z.length = k) (hi : xs.length = i) (h1 : (R.row a).all oneV = true) :
    putCells b (M ++ [.live ⟨cellsL R xs ++ zrow z (m + 1), true, t, e, k⟩]) M.length (i * k) (R.row a) = some (M ++ [.live ⟨cellsL R (xs ++ [a]) ++ zrow z m, true, t, e, k⟩]) := by
  subst hi
  rw [putCells_new0 hb, putL_zero, splice_rec R hz, if_pos ⟨rfl, by simp only [List.length_append, cellsL_len, R.len, zrow_succ]; omega, h1⟩]
  rfl
theorem Sl.new {R : RecV α k} {M : Mem} {l : List α} {o t : Bool} {e : TypeId} {n : Nat} (hn : l.length = n) : Sl R (M ++ [.live ⟨cellsL R l, o, t, e, k⟩]) (some ⟨M.length, 0, none⟩) n l :=
  ⟨hn, fun _ => ⟨M.length, 0, rfl, by simp [rowEsz], fun j x hx => by simp [cellAt, hx]⟩⟩
def Ownd (M : Mem) (A : Option Addr) (n : Nat) : Prop := 0 < n → ∃ id off r, A = some ⟨id, off, none⟩ ∧ M[id]? = some (.live r) ∧ r.own = true
/-- A result that lies in new memory. -/
def Fresh (R : RecV α k) (M : Mem) (v : Value) (M' : Mem) (l : List α) : Prop :=
  ∃ A n c, v = .slice A n c ∧ n ≤ 1099511627776 ∧ Sl R M' A n l ∧ (∀ a, A = some a → M.length ≤ a.block) ∧ Ownd M' A n ∧ Keeps M M'
theorem Fresh.new {R : RecV α k} {M : Mem} {l : List α} {t : Bool} {e : TypeId} {n c : Nat} (hn : l.length = n) (hb : n ≤ 1099511627776) : Fresh R M (.slice (some ⟨M.length, 0, none⟩) n c) (M ++ [.live ⟨cellsL R l, true, t, e, k⟩]) l :=
  ⟨_, _, _, rfl, hb, Sl.new hn, fun a h => by injection h with h; subst h; exact Nat.le_refl _, fun _ => ⟨_, _, _, rfl, getElem?_snoc_eq, rfl⟩, keeps_app _⟩
theorem Sl.lt {R : RecV α k} {M : Mem} {A : Option Addr} {n : Nat} {l : List α} (h : Sl R M A n l) (hn : 0 < n) : ∃ a, A = some a ∧ a.block < M.length := by
  obtain ⟨id, off, e, he, _⟩ := h.2 hn
  refine ⟨_, e, ?_⟩
  unfold rowEsz at he
  cases hm : M[id]? with
  | none => rw [hm] at he; cases he
  | some s => exact (List.getElem?_eq_some_iff.1 hm).1
theorem Keeps.len {M M' : Mem} (h : Keeps M M') : M.length ≤ M'.length := by
  rcases Nat.eq_zero_or_pos M.length with h0 | h0
  · omega
  · have := h.get (List.getElem?_eq_getElem (show M.length - 1 < M.length by omega))
    have := (List.getElem?_eq_some_iff.1 this).1
    omega
/-- Only the row of A may have turned. -/
def Turned (A : Option Addr) (n : Nat) (M M' : Mem) : Prop := M'.length = M.length ∧ ∀ (i : Nat) s, M[i]? = some s → (∀ a, A = some a → 0 < n → i ≠ a.block) → M'[i]? = some s
theorem Turned.keeps {M0 M M' : Mem} {A : Option Addr} {n : Nat} (h : Turned A n M M') (hk : Keeps M0 M) (ha : ∀ a, A = some a → M0.length ≤ a.block) : Keeps M0 M' := by
  unfold Keeps
  exact fun i s hs => h.2 i s (hk.get hs) fun a e _ => by have := ha a e; have := (List.getElem?_eq_some_iff.1 hs).1; omega
theorem Sl.turn {R : RecV α k} {M M' : Mem} {A B : Option Addr} {n m : Nat} {l : List α} (h : Sl R M B m l) (ht : Turned A n M M') (hd : ∀ a b, A = some a → B = some b → 0 < n → 0 < m → b.block ≠ a.block) : Sl R M' B m l := by
  refine ⟨h.1, fun hm => ?_⟩
  obtain ⟨id, off, e, he, hc⟩ := h.2 hm
  have hi : M'[id]? = M[id]? := by
    cases hs : M[id]? with
    | none => unfold rowEsz at he; rw [hs] at he; cases he
    | some s => exact ht.2 id s hs fun a ea hn => hd a _ ea e hn hm
  refine ⟨id, off, e, by unfold rowEsz at he ⊢; rw [hi]; exact he, fun j x hx => ?_⟩
  have := hc j x hx
  unfold cellAt at this ⊢
  rw [hi]; exact this
theorem Ownd.turn {M M' : Mem} {A B : Option Addr} {n m : Nat} (h : Ownd M B m) (ht : Turned A n M M') (hd : ∀ a b, A = some a → B = some b → 0 < n → 0 < m → b.block ≠ a.block) : Ownd M' B m := fun hm => by
  obtain ⟨id, off, r, e, hr, ho⟩ := h hm
  exact ⟨id, off, r, e, ht.2 id _ hr fun a ea hn => hd a _ ea e hn hm, ho⟩
theorem Ownd.keeps {M M' : Mem} {A : Option Addr} {n : Nat} (h : Ownd M A n) (hk : Keeps M M') : Ownd M' A n := fun hn => by
  obtain ⟨id, off, r, e, hr, ho⟩ := h hn
  exact ⟨id, off, r, e, hk.get hr, ho⟩
theorem Sl.cells {R : RecV α k} {M : Mem} {id off n : Nat} {l : List α} {r : Row} (h : Sl R M (some ⟨id, off, none⟩) n l) (hr : M[id]? = some (.live r)) (hn : 0 < n) (hk : 0 < k) : r.esz = k ∧ off + n * k ≤ r.cells.length := by
  obtain ⟨_, _, e, he, hc⟩ := h.2 hn
  injection e with e
  injection e with e1 e2
  subst e1; subst e2
  refine ⟨by unfold rowEsz at he; rw [hr] at he; simpa using he, ?_⟩
  have hnk : 0 < n * k := Nat.mul_pos hn hk
  have hl : (cellsL R l).length = n * k := by rw [cellsL_len, h.1]
  have hx : (cellsL R l)[n * k - 1]? = some ((cellsL R l)[n * k - 1]'(by omega)) := List.getElem?_eq_getElem (by omega)
  have := hc _ _ hx
  unfold cellAt at this
  rw [hr] at this
  have := (List.getElem?_eq_some_iff.1 this).1
  omega
theorem put_set {b : Nat} {M : Mem} {id p : Nat} {v : Value} {cs : List Value} {t : Bool} {e : TypeId} {z : Nat} (hid : id < M.length) (hb : b ≤ id) (hp : p < cs.length) (h1 : oneV v = true) :
    putCells b (M.set id (.live ⟨cs, true, t, e, z⟩)) id p [v] = some (M.set id (.live ⟨cs.set p v, true, t, e, z⟩)) := by
  unfold putCells
  rw [List.getElem?_set_self hid]
  simp only
  rw [if_pos (by simp [hb, h1]; omega)]
  simp [splice]
theorem rowEsz_set {M : Mem} {id : Nat} {r : Row} (hid : id < M.length) : rowEsz (M.set id (.live r)) id = some r.esz := by simp [rowEsz, List.getElem?_set_self hid]
theorem splice_mid (R : RecV α k) {cs : List Value} {off j : Nat} {l : List α} {a : α} (hl : l.length = j) (h : off + (j + 1) * k ≤ cs.length) :
    splice (cs.take off ++ cellsL R l ++ cs.drop (off + j * k)) (off + j * k) (R.row a) = cs.take off ++ cellsL R (l ++ [a]) ++ cs.drop (off + (j + 1) * k) := by
  rw [Nat.add_mul, Nat.one_mul] at h ⊢
  have e : off + j * k = (cs.take off ++ cellsL R l).length := by rw [List.length_append, cellsL_len, List.length_take, hl]; omega
  conv => lhs; rw [e]
  rw [← e, e, splice_app _ _ _ (by rw [R.len, List.length_drop]; omega), R.len, List.drop_drop, cellsL_snoc, ← e]
  simp [Nat.add_assoc]
theorem set_turned {M : Mem} {id off : Nat} {s : Slot} {n : Nat} (hn : 0 < n) : Turned (some ⟨id, off, none⟩) n M (M.set id s) :=
  ⟨by simp, fun i s hs h => by rw [List.getElem?_set_ne (by have := h _ rfl hn; simpa using this.symm)]; exact hs⟩
theorem Sl.set {R : RecV α k} {M : Mem} {id off n : Nat} {pre post : List Value} {l : List α} {o t : Bool} {e : TypeId} (hid : id < M.length) (hp : pre.length = off) (hl : l.length = n) :
    Sl R (M.set id (.live ⟨pre ++ cellsL R l ++ post, o, t, e, k⟩)) (some ⟨id, off, none⟩) n l :=
  ⟨hl, fun _ => ⟨id, off, rfl, by simp [rowEsz, List.getElem?_set_self hid], fun j x hx => by
    simp only [cellAt, List.getElem?_set_self hid]
    rw [List.append_assoc, List.getElem?_append_right (by omega), hp, show off + j - off = j by omega, List.getElem?_append_left (List.getElem?_eq_some_iff.1 hx).1]
    exact hx⟩⟩
/-- A slice value that reads as records, its row's id from lo up to hi. -/
def RdL (R : RecV α k) (lo hi : Nat) (M : Mem) (v : Value) (l : List α) : Prop :=
  ∃ A n c, v = .slice A n c ∧ n ≤ 9223372036854775807 ∧ Sl R M A n l ∧ (∀ a, A = some a → 0 < n → lo ≤ a.block ∧ a.block < hi)
/-- It may be written. -/
def OwL (R : RecV α k) (lo hi : Nat) (M : Mem) (v : Value) (l : List α) : Prop :=
  ∃ A n c, v = .slice A n c ∧ n ≤ 1099511627776 ∧ Sl R M A n l ∧ (∀ a, A = some a → 0 < n → lo ≤ a.block ∧ a.block < hi) ∧ Ownd M A n
/-- Only rows with ids from lo up to hi may have turned. -/
def Turn (lo hi : Nat) (M M' : Mem) : Prop := M.length ≤ M'.length ∧ ∀ (i : Nat) s, M[i]? = some s → (i < lo ∨ hi ≤ i) → M'[i]? = some s
theorem OwL.rd {R : RecV α k} {lo hi : Nat} {M : Mem} {v : Value} {l : List α} (h : OwL R lo hi M v l) : RdL R lo hi M v l := by
  obtain ⟨A, n, c, h1, h2, h3, h4, _⟩ := h
  exact ⟨A, n, c, h1, by omega, h3, h4⟩
theorem RdL.keeps {R : RecV α k} {lo hi : Nat} {M M' : Mem} {v : Value} {l : List α} (h : RdL R lo hi M v l) (hk : Keeps M M') : RdL R lo hi M' v l := by
  obtain ⟨A, n, c, h1, h2, h3, h4⟩ := h
  exact ⟨A, n, c, h1, h2, h3.keeps hk, h4⟩
theorem OwL.keeps {R : RecV α k} {lo hi : Nat} {M M' : Mem} {v : Value} {l : List α} (h : OwL R lo hi M v l) (hk : Keeps M M') : OwL R lo hi M' v l := by
  obtain ⟨A, n, c, h1, h2, h3, h4, h5⟩ := h
  exact ⟨A, n, c, h1, h2, h3.keeps hk, h4, h5.keeps hk⟩
theorem Sl.turn' {R : RecV α k} {M M' : Mem} {B : Option Addr} {m lo hi : Nat} {l : List α} (h : Sl R M B m l) (ht : Turn lo hi M M') (hd : ∀ b, B = some b → 0 < m → b.block < lo ∨ hi ≤ b.block) : Sl R M' B m l := by
  refine ⟨h.1, fun hm => ?_⟩
  obtain ⟨id, off, e, he, hc⟩ := h.2 hm
  have hi' : M'[id]? = M[id]? := by
    cases hs : M[id]? with
    | none => unfold rowEsz at he; rw [hs] at he; cases he
    | some s => exact ht.2 id s hs (hd _ e hm)
  refine ⟨id, off, e, by unfold rowEsz at he ⊢; rw [hi']; exact he, fun j x hx => ?_⟩
  have := hc j x hx
  unfold cellAt at this ⊢
  rw [hi']; exact this
theorem Ownd.turn' {M M' : Mem} {B : Option Addr} {m lo hi : Nat} (h : Ownd M B m) (ht : Turn lo hi M M') (hd : ∀ b, B = some b → 0 < m → b.block < lo ∨ hi ≤ b.block) : Ownd M' B m := fun hm => by
  obtain ⟨id, off, r, e, hr, ho⟩ := h hm
  exact ⟨id, off, r, e, ht.2 id _ hr (hd _ e hm), ho⟩
theorem RdL.turn {R : RecV α k} {lo hi lo' hi' : Nat} {M M' : Mem} {v : Value} {l : List α} (h : RdL R lo hi M v l) (ht : Turn lo' hi' M M') (hd : hi ≤ lo' ∨ hi' ≤ lo) : RdL R lo hi M' v l := by
  obtain ⟨A, n, c, h1, h2, h3, h4⟩ := h
  exact ⟨A, n, c, h1, h2, h3.turn' ht fun b e hm => by have := h4 b e hm; omega, h4⟩
theorem OwL.turn {R : RecV α k} {lo hi lo' hi' : Nat} {M M' : Mem} {v : Value} {l : List α} (h : OwL R lo hi M v l) (ht : Turn lo' hi' M M') (hd : hi ≤ lo' ∨ hi' ≤ lo) : OwL R lo hi M' v l := by
  obtain ⟨A, n, c, h1, h2, h3, h4, h5⟩ := h
  exact ⟨A, n, c, h1, h2, h3.turn' ht fun b e hm => (by have := h4 b e hm; omega), h4, h5.turn' ht fun b e hm => (by have := h4 b e hm; omega)⟩
theorem Turn.keeps {M0 M M' : Mem} {lo hi : Nat} (h : Turn lo hi M M') (hk : Keeps M0 M) (ha : M0.length ≤ lo) : Keeps M0 M' := by
  unfold Keeps
  exact fun i s hs => h.2 i s (hk.get hs) (.inl (by have := (List.getElem?_eq_some_iff.1 hs).1; omega))
theorem RdL.of_sl {R : RecV α k} {M : Mem} {B : Option Addr} {n : Nat} {l : List α} (hn : n ≤ maxLen) (hs : Sl R M B n l) (c : Nat) : RdL R 0 M.length M (.slice B n c) l :=
  ⟨B, n, c, rfl, by unfold maxLen at hn; omega, hs, fun a e hp => ⟨Nat.zero_le _, by obtain ⟨a', e', h⟩ := hs.lt hp; rw [e] at e'; injection e' with e'; subst e'; exact h⟩⟩
theorem RdL.up {R : RecV α k} {lo : Nat} {M : Mem} {v : Value} {l : List α} (h : RdL R lo M.length M v l) (L : Mem) : RdL R lo (M ++ L).length (M ++ L) v l := by
  obtain ⟨A, n, c, h1, h2, h3, h4⟩ := h
  exact ⟨A, n, c, h1, h2, h3.app L, fun a e hp => by have := h4 a e hp; simp; omega⟩
theorem Fresh.ow {R : RecV α k} {M M' : Mem} {v : Value} {l : List α} (h : Fresh R M v M' l) : OwL R M.length M'.length M' v l ∧ Keeps M M' := by
  obtain ⟨A, n, c, h1, h2, h3, h4, h5, h6⟩ := h
  exact ⟨⟨A, n, c, h1, h2, h3, fun a e hn => ⟨h4 a e, by obtain ⟨a', e', h⟩ := h3.lt hn; rw [e] at e'; injection e' with e'; subst e'; exact h⟩, h5⟩, h6⟩
theorem cellsAt_keeps {M M' : Mem} {id off n : Nat} {vs : List Value} (hk : Keeps M M') (h : cellsAt M id off n = some vs) : cellsAt M' id off n = some vs := by
  unfold cellsAt at h ⊢
  cases hm : M[id]? with
  | none => rw [hm] at h; cases h
  | some s => rw [hk.get hm]; rw [hm] at h; exact h
theorem cellsAt_turn {M M' : Mem} {id off n lo hi : Nat} {vs : List Value} (ht : Turn lo hi M M') (hi' : id < lo) (h : cellsAt M id off n = some vs) : cellsAt M' id off n = some vs := by
  unfold cellsAt at h ⊢
  cases hm : M[id]? with
  | none => rw [hm] at h; cases h
  | some s => rw [ht.2 id s hm (.inl hi')]; rw [hm] at h; exact h
theorem cellsAt_turn2 {M M' : Mem} {id off n lo hi : Nat} {vs : List Value} (ht : Turn lo hi M M') (hi' : id < lo ∨ hi ≤ id) (h : cellsAt M id off n = some vs) : cellsAt M' id off n = some vs := by
  unfold cellsAt at h ⊢
  cases hm : M[id]? with
  | none => rw [hm] at h; cases h
  | some s => rw [ht.2 id s hm hi']; rw [hm] at h; exact h
theorem Keeps.split {A B : Mem} (h : Keeps A B) : ∃ C, B = A ++ C := by
  refine ⟨B.drop A.length, ?_⟩
  have hl := h.len
  apply List.ext_getElem?
  intro i
  by_cases hi : i < A.length
  · rw [List.getElem?_append_left hi, h.get (List.getElem?_eq_getElem hi), List.getElem?_eq_getElem hi]
  · rw [List.getElem?_append_right (by omega), List.getElem?_drop, show A.length + (i - A.length) = i by omega]
theorem turn_mid {M A B C : Mem} (h : A.length = B.length) : Turn M.length (M.length + A.length) (M ++ (A ++ C)) (M ++ (B ++ C)) := by
  refine ⟨by simp [h], fun i s hs hd => ?_⟩
  rcases hd with hd | hd
  · rw [List.getElem?_append_left hd] at hs ⊢; exact hs
  · rw [List.getElem?_append_right (by omega), List.getElem?_append_right (by omega)] at hs ⊢
    rw [← h]; exact hs
theorem turn_mid3 {M C : Mem} {a b c a' b' c' : Slot} : Turn M.length (M.length + 3) (M ++ a :: b :: c :: C) (M ++ a' :: b' :: c' :: C) := turn_mid (A := [a, b, c]) (B := [a', b', c']) rfl
theorem OwL.wide {R : RecV α k} {lo hi lo' hi' : Nat} {M : Mem} {v : Value} {l : List α} (h : OwL R lo hi M v l) (h1 : lo' ≤ lo) (h2 : hi ≤ hi') : OwL R lo' hi' M v l := by
  obtain ⟨A, n, c, e1, e2, e3, e4, e5⟩ := h
  exact ⟨A, n, c, e1, e2, e3, fun a e hn => by have := e4 a e hn; omega, e5⟩
theorem OwL.isSlice {R : RecV α k} {lo hi : Nat} {M : Mem} {v : Value} {l : List α} (h : OwL R lo hi M v l) : ∃ A n c, v = .slice A n c := by
  obtain ⟨A, n, c, e1, _⟩ := h
  exact ⟨A, n, c, e1⟩
theorem OwL.one {R : RecV α k} {lo hi : Nat} {M : Mem} {v : Value} {l : List α} (h : OwL R lo hi M v l) : oneV v = true := by
  obtain ⟨A, n, c, rfl⟩ := h.isSlice
  rfl
theorem Turn.app {lo hi : Nat} {M M' L : Mem} (h : Turn lo hi (M ++ L) M') : Turn lo hi M M' :=
  ⟨Nat.le_trans (by simp) h.1, fun i s hs hd => h.2 i s (by rw [List.getElem?_append_left (List.getElem?_eq_some_iff.1 hs).1]; exact hs) hd⟩
end
def fstI {α : Type} (p : α → Bool) (l : List α) : Int := match l.findIdx? p with | some i => (i : Int) | none => -1
theorem fstI_none {α : Type} [Inhabited α] {p : α → Bool} {l : List α} (h : ∀ i, i < l.length → p (el l i) = false) : fstI p l = -1 := by
  unfold fstI
  rw [List.findIdx?_eq_none_iff.2]
  intro x hx
  obtain ⟨i, hi, rfl⟩ := List.getElem_of_mem hx
  have := h i hi
  rw [← el_eq hi] at this
  simpa using this
theorem fstI_some {α : Type} [Inhabited α] {p : α → Bool} {l : List α} {i : Nat} (hi : i < l.length) (hp : p (el l i) = true) (h : ∀ j, j < i → p (el l j) = false) : fstI p l = i := by
  unfold fstI
  rw [List.findIdx?_eq_some_iff_getElem.2 (?_ : ∃ h : i < l.length, p l[i] = true ∧ ∀ j (hj : j < i), ¬ p (l[j]'(Nat.lt_trans hj h)) = true)]
  exact ⟨hi, by rw [el_eq hi]; exact hp, fun j hj => by have := h j hj; rw [← el_eq (by omega)] at this; simpa using this⟩
def intR : RecV Int 1 := ⟨fun n => [iv n], fun _ => rfl⟩
theorem wrap_in {x : Int} (h1 : -9223372036854775808 ≤ x) (h2 : x ≤ 9223372036854775807) : IntKind.i64.wrap x = x := IntWalk.i64_in _ ⟨h1, h2⟩
theorem keeps_set {M M' : Mem} {id : Nat} {s : Slot} (hK : Keeps M M') (h : M.length ≤ id) : Keeps M (M'.set id s) := by
  unfold Keeps
  exact fun i s hs => by rw [List.getElem?_set_ne (by have := (List.getElem?_eq_some_iff.1 hs).1; omega)]; exact hK.get hs
theorem splice_whole {cs vs : List Value} (h : vs.length = cs.length) : splice cs 0 vs = vs := by
  have := splice_app vs [] cs (by omega)
  simpa [h] using this
theorem put_whole {b : Nat} {M : Mem} {id : Nat} {vs cs : List Value} {t : Bool} {e : TypeId} {z : Nat} (hr : M[id]? = some (.live ⟨cs, true, t, e, z⟩)) (hb : b ≤ id) (hl : vs.length = cs.length) (h1 : vs.all oneV = true) :
    putCells b M id 0 vs = some (M.set id (.live ⟨vs, true, t, e, z⟩)) := by
  unfold putCells
  rw [hr]
  simp only
  rw [if_pos ⟨hb, trivial, by omega, h1⟩, splice_whole hl]
theorem str_same (s : ByteArray) : strV .neq s s = some (.bool false) := by
  show some (Value.bool (!(s.toList == s.toList))) = _
  rw [beq_self_eq_true]
  rfl
theorem dec_neg {x : Int} (h : 0 ≤ x) : decide (x < 0) = false := decide_eq_false (by omega)
def inB (n lo hi : Int) : Bool := decide (lo ≤ n) && decide (n ≤ hi)
theorem inB_iff {n lo hi : Int} : inB n lo hi = true ↔ lo ≤ n ∧ n ≤ hi := by simp [inB]
end Go.Proofs.YtbpaeonfebmomaaDoor

namespace Go.Proofs.YtbpaeonfebmomaaDoor
open Go.RowKit
set_option linter.unusedVariables false
set_option linter.unusedSimpArgs false
set_option maxRecDepth 100000
attribute [local simp] List.getElem?_cons_zero
attribute [local irreducible] awCond awCall awLoop awDraw ow retQ retC resQ Keeps
section
variable {α : Type} {k : Nat}
/-- The value v is a list in a row of one's own, from id B on, that append can grow. -/
def Acc (R : RecV α k) (e : TypeId) (B : Nat) (M : Mem) (v : Value) (l : List α) : Prop :=
  ∃ A n c, v = .slice A n c ∧ l.length = n ∧ ((A = none ∧ n = 0 ∧ c = 0) ∨ ∃ id t, A = some ⟨id, 0, none⟩ ∧ B ≤ id ∧ M[id]? = some (.live ⟨cellsL R l, true, t, e, k⟩))
/-- Below B nothing has turned. -/
def Same (B : Nat) (M M' : Mem) : Prop := M.length ≤ M'.length ∧ ∀ (i : Nat) s, i < B → M[i]? = some s → M'[i]? = some s
theorem Same.keeps {B : Nat} {M0 M M' : Mem} (h : Same B M M') (hk : Keeps M0 M) (hb : M0.length ≤ B) : Keeps M0 M' := by
  unfold Keeps
  exact fun i s hs => h.2 i s (by have := (List.getElem?_eq_some_iff.1 hs).1; omega) (hk.get hs)
theorem Acc.keeps {R : RecV α k} {e : TypeId} {B : Nat} {M M' : Mem} {v : Value} {l : List α} (h : Acc R e B M v l) (hk : Keeps M M') : Acc R e B M' v l := by
  obtain ⟨A, n, c, h1, h2, h3⟩ := h
  refine ⟨A, n, c, h1, h2, ?_⟩
  rcases h3 with h3 | ⟨id, t, h4, h5, h6⟩
  · exact .inl h3
  · exact .inr ⟨id, t, h4, h5, hk.get h6⟩
theorem Acc.src {P : Program} {R : RecV α k} {e tx : TypeId} {B : Nat} {M : Mem} {v : Value} {l : List α} (h : Acc R e B M v l) (ht : ∃ e', P.underlying tx = some (.slice e')) : srcOf P M k tx v = some (l.length, cellsL R l) := by
  obtain ⟨e', ht⟩ := ht
  obtain ⟨A, n, c, rfl, hl, hA⟩ := h
  subst hl
  rcases hA with ⟨rfl, h0, rfl⟩ | ⟨id, t, rfl, hid, hr⟩
  · obtain rfl := List.eq_nil_of_length_eq_zero h0
    simp [srcOf, ht, cellsL]
  · have e : cellsAt M id 0 (l.length * k) = some (cellsL R l) := by
      unfold cellsAt
      rw [hr]
      simp only
      rw [if_pos (by rw [cellsL_len]; omega), List.drop_zero, List.take_of_length_le (by rw [cellsL_len]; omega)]
    rcases l with _ | ⟨x, l⟩
    · simp [srcOf, ht, cellsL]
    · simp at e
      simp [srcOf, ht, e]
theorem Sl.src {P : Program} {R : RecV α k} {tx : TypeId} {M : Mem} {ad : Addr} {n c : Nat} {l : List α} (h : Sl R M (some ad) n l) (hk : 0 < k) (ht : ∃ e', P.underlying tx = some (.slice e')) : srcOf P M k tx (.slice (some ad) n c) = some (l.length, cellsL R l) := by
  obtain ⟨e', ht⟩ := ht
  have hl := h.1
  by_cases h0 : n = 0
  · subst h0
    obtain rfl := List.eq_nil_of_length_eq_zero hl
    simp [srcOf, ht, cellsL]
  · obtain ⟨id, off, e, he, hc⟩ := h.2 (by omega)
    injection e with e
    subst e
    have e := cellsAt_of hc (by rw [cellsL_len, hl]) (Nat.mul_pos (by omega) hk)
    simp [srcOf, ht, e, h0, hl]
theorem nil_eq {P : Program} {t e : TypeId} {q : Option Addr} {n c : Nat} (h : P.underlying t = some (.slice e)) : binV P .eql t (.slice q n c) (.slice none 0 0) = some (.bool q.isNone) := by
  cases q <;> simp [binV, eqV, h, slNil, eqNil]
theorem Acc.set_ne {R : RecV α k} {e : TypeId} {B : Nat} {M : Mem} {v : Value} {l : List α} {i : Nat} {s : Slot} (h : Acc R e B M v l) (hi : i < B) : Acc R e B (M.set i s) v l := by
  obtain ⟨A, n, c, h1, h2, h3⟩ := h
  refine ⟨A, n, c, h1, h2, ?_⟩
  rcases h3 with h3 | ⟨id, t, h4, h5, h6⟩
  · exact .inl h3
  · exact .inr ⟨id, t, h4, h5, by rw [List.getElem?_set_ne (by omega)]; exact h6⟩
theorem Acc.low {R : RecV α k} {e : TypeId} {B B' : Nat} {M : Mem} {v : Value} {l : List α} (h : Acc R e B M v l) (hb : B' ≤ B) : Acc R e B' M v l := by
  obtain ⟨A, n, c, h1, h2, h3⟩ := h
  refine ⟨A, n, c, h1, h2, ?_⟩
  rcases h3 with h3 | ⟨id, t, h4, h5, h6⟩
  · exact .inl h3
  · exact .inr ⟨id, t, h4, by omega, h6⟩
theorem Acc.sl {R : RecV α k} {e : TypeId} {B : Nat} {M : Mem} {v : Value} {l : List α} (h : Acc R e B M v l) : ∃ A n c, v = .slice A n c ∧ l.length = n ∧ Sl R M A n l ∧ oneV v = true := by
  obtain ⟨A, n, c, rfl, hl, hA⟩ := h
  refine ⟨A, n, c, rfl, hl, ?_, rfl⟩
  rcases hA with ⟨rfl, rfl, rfl⟩ | ⟨id, t, rfl, hid, hr⟩
  · exact ⟨hl, fun h => by omega⟩
  · exact ⟨hl, fun _ => ⟨id, 0, rfl, by simp [rowEsz, hr], fun j x hx => by simp [cellAt, hr, hx]⟩⟩
theorem Acc.nil {R : RecV α k} {e : TypeId} {B : Nat} {M : Mem} : Acc R e B M (.slice none 0 0) [] := ⟨none, 0, 0, rfl, rfl, .inl ⟨rfl, rfl, rfl⟩⟩
theorem Acc.append {P : Program} {R : RecV α k} {e t tx : TypeId} {B b by_ : Nat} {S : St} {v x : Value} {l : List α} {a : α} {K : Value → Mem → Prop} (h : Acc R e B S.M v l) (hb : b ≤ B) (hB : B ≤ S.M.length) (hk : 0 < k) (hq : qSlice P t = some (e, k, by_))
    (hz : (P.info? e).any (fun i => i.zero.any fun z => z.cells.size == k) = true) (hs : srcOf P S.M k tx x = some (1, R.row a)) (h1 : (R.row a).all (fun u => u.oneCell') = true) (hn : (l.length + 1) * by_ ≤ 140737488355328) (hm : l.length + 1 ≤ maxLen)
    (hK : ∀ v' M', Acc R e B M' v' (l ++ [a]) → Same B S.M M' → K v' M') : appendK P b S K t tx v x := by
  obtain ⟨A, n, c, rfl, hl, hA⟩ := h
  subst hl
  unfold appendK
  rw [hq]
  simp only [ow_some]
  rw [hs]
  simp only [ow_some]
  refine ⟨hz, h1, ?_⟩
  rcases hA with ⟨rfl, h0, rfl⟩ | ⟨id, tt, rfl, hid, hr⟩
  · obtain rfl := List.eq_nil_of_length_eq_zero h0
    refine ⟨⟨rfl, rfl⟩, by simpa using hn, by simpa using hm, fun h => by omega, fun _ => hK _ _ ⟨_, _, _, rfl, rfl, .inr ⟨S.M.length, false, rfl, hB, ?_⟩⟩ ⟨by simp, fun i s _ hs => ?_⟩⟩
    · rw [getElem?_snoc_eq]; simp [cellsL]
    · rw [List.getElem?_append_left (List.getElem?_eq_some_iff.1 hs).1]; exact hs
  · have hlt := (List.getElem?_eq_some_iff.1 hr).1
    simp only [hr]
    refine ⟨⟨trivial, by rw [cellsL_len], trivial, trivial⟩, hn, hm, fun h => by omega, fun _ => ?_⟩
    split
    · refine hK _ _ ⟨_, _, _, rfl, by simp, .inr ⟨S.M.length, false, rfl, hB, ?_⟩⟩ ⟨by simp, fun i s _ hs => ?_⟩
      · rw [getElem?_snoc_eq, cellsL_snoc]
      · rw [List.getElem?_append_left (List.getElem?_eq_some_iff.1 hs).1]; exact hs
    · refine ⟨by omega, hK _ _ ⟨_, _, _, rfl, by simp, .inr ⟨S.M.length, false, rfl, hB, ?_⟩⟩ ⟨by simp, fun i s hi hs => ?_⟩⟩
      · rw [List.getElem?_append_right (by simp), List.length_set, Nat.sub_self, cellsL_snoc]; rfl
      · rw [List.getElem?_append_left (by simpa using (List.getElem?_eq_some_iff.1 hs).1), List.getElem?_set_ne (by omega)]; exact hs
theorem Same.refl (B : Nat) (M : Mem) : Same B M M := ⟨Nat.le_refl _, fun _ _ _ h => h⟩
/-- The value does not lie in row i. -/
def Apart (v : Value) (i : Nat) : Prop := ∀ (A : Option Addr) (n c : Nat) (a : Addr), v = .slice A n c → A = some a → i ≠ a.block
theorem apart_new {M : Mem} {i : Nat} {s : Slot} {n c : Nat} (h : M[i]? = some s) : Apart (.slice (some ⟨M.length, 0, none⟩) n c) i := by
  intro A n' c' a e ea
  injection e with e1
  subst e1
  injection ea with ea
  subst ea
  have := (List.getElem?_eq_some_iff.1 h).1
  show i ≠ M.length
  omega
theorem Acc.apart {R : RecV α k} {e : TypeId} {B : Nat} {M : Mem} {v : Value} {l : List α} (h : Acc R e B M v l) {i : Nat} (hi : M.length ≤ i) : Apart v i := by
  obtain ⟨A, n, c, rfl, hl, hA⟩ := h
  intro A' n' c' a e ea
  injection e with e1
  subst e1
  rcases hA with ⟨rfl, _⟩ | ⟨id, t, rfl, hid, hr⟩
  · cases ea
  · injection ea with ea
    subst ea
    have := (List.getElem?_eq_some_iff.1 hr).1
    show i ≠ id
    omega
theorem Acc.extend2 {P : Program} {R : RecV α k} {e t tx : TypeId} {B b by_ : Nat} {S : St} {v x : Value} {l ls : List α} {K : Value → Mem → Prop} (h : Acc R e B S.M v l) (hb : b ≤ B) (hB : B ≤ S.M.length) (hq : qSlice P t = some (e, k, by_))
    (hz : (P.info? e).any (fun i => i.zero.any fun z => z.cells.size == k) = true) (hs : srcOf P S.M k tx x = some (ls.length, cellsL R ls)) (h1 : (cellsL R ls).all (fun u => u.oneCell') = true) (hn : (l.length + ls.length) * by_ ≤ 140737488355328) (hm : l.length + ls.length ≤ maxLen)
    (hK : ∀ v' M', Acc R e B M' v' (l ++ ls) → Same B S.M M' → (∀ (i : Nat) s, Apart v i → S.M[i]? = some s → M'[i]? = some s ∧ Apart v' i) → K v' M') : appendK P b S K t tx v x := by
  obtain ⟨A, n, c, rfl, hl, hA⟩ := h
  subst hl
  unfold appendK
  rw [hq]
  simp only [ow_some]
  rw [hs]
  simp only [ow_some]
  refine ⟨hz, h1, ?_⟩
  rcases hA with ⟨rfl, h0, rfl⟩ | ⟨id, tt, rfl, hid, hr⟩
  · obtain rfl := List.eq_nil_of_length_eq_zero h0
    refine ⟨⟨rfl, rfl⟩, by simpa using hn, by simpa using hm, fun h => ?_, fun _ => hK _ _ ⟨_, _, _, rfl, by simp, .inr ⟨S.M.length, false, rfl, hB, ?_⟩⟩ ⟨by simp, fun i s _ hs => ?_⟩ fun i s ha hs => ⟨?_, apart_new hs⟩⟩
    · obtain rfl := List.eq_nil_of_length_eq_zero h
      exact hK _ _ .nil (.refl _ _) fun i s ha hs => ⟨hs, ha⟩
    · rw [getElem?_snoc_eq]; simp
    · rw [List.getElem?_append_left (List.getElem?_eq_some_iff.1 hs).1]; exact hs
    · rw [List.getElem?_append_left (List.getElem?_eq_some_iff.1 hs).1]; exact hs
  · have hlt := (List.getElem?_eq_some_iff.1 hr).1
    simp only [hr]
    refine ⟨⟨trivial, by rw [cellsL_len], trivial, trivial⟩, hn, hm, fun h => ?_, fun _ => ?_⟩
    · obtain rfl := List.eq_nil_of_length_eq_zero h
      exact hK _ _ ⟨_, _, _, rfl, by simp, .inr ⟨id, tt, rfl, hid, by simpa using hr⟩⟩ (.refl _ _) fun i s ha hs => ⟨hs, ha⟩
    split
    · refine hK _ _ ⟨_, _, _, rfl, by simp, .inr ⟨S.M.length, false, rfl, hB, ?_⟩⟩ ⟨by simp, fun i s _ hs => ?_⟩ fun i s ha hs => ⟨?_, apart_new hs⟩
      · rw [getElem?_snoc_eq, cellsL_append]
      · rw [List.getElem?_append_left (List.getElem?_eq_some_iff.1 hs).1]; exact hs
      · rw [List.getElem?_append_left (List.getElem?_eq_some_iff.1 hs).1]; exact hs
    · refine ⟨by omega, hK _ _ ⟨_, _, _, rfl, by simp, .inr ⟨S.M.length, false, rfl, hB, ?_⟩⟩ ⟨by simp, fun i s hi hs => ?_⟩ fun i s ha hs => ⟨?_, apart_new hs⟩⟩
      · rw [List.getElem?_append_right (by simp), List.length_set, Nat.sub_self, cellsL_append]; rfl
      · rw [List.getElem?_append_left (by simpa using (List.getElem?_eq_some_iff.1 hs).1), List.getElem?_set_ne (by omega)]; exact hs
      · have := ha _ _ _ _ rfl rfl
        rw [List.getElem?_append_left (by simpa using (List.getElem?_eq_some_iff.1 hs).1), List.getElem?_set_ne (Ne.symm (by simpa using this))]; exact hs
theorem Acc.extend {P : Program} {R : RecV α k} {e t tx : TypeId} {B b by_ : Nat} {S : St} {v x : Value} {l ls : List α} {K : Value → Mem → Prop} (h : Acc R e B S.M v l) (hb : b ≤ B) (hB : B ≤ S.M.length) (hq : qSlice P t = some (e, k, by_))
    (hz : (P.info? e).any (fun i => i.zero.any fun z => z.cells.size == k) = true) (hs : srcOf P S.M k tx x = some (ls.length, cellsL R ls)) (h1 : (cellsL R ls).all (fun u => u.oneCell') = true) (hn : (l.length + ls.length) * by_ ≤ 140737488355328) (hm : l.length + ls.length ≤ maxLen)
    (hK : ∀ v' M', Acc R e B M' v' (l ++ ls) → Same B S.M M' → K v' M') : appendK P b S K t tx v x := h.extend2 hb hB hq hz hs h1 hn hm fun v' M' a b _ => hK v' M' a b
theorem Acc.append2 {P : Program} {R : RecV α k} {e t tx : TypeId} {B b by_ : Nat} {S : St} {v x : Value} {l : List α} {a : α} {K : Value → Mem → Prop} (h : Acc R e B S.M v l) (hb : b ≤ B) (hB : B ≤ S.M.length) (_hk : 0 < k) (hq : qSlice P t = some (e, k, by_))
    (hz : (P.info? e).any (fun i => i.zero.any fun z => z.cells.size == k) = true) (hs : srcOf P S.M k tx x = some (1, R.row a)) (h1 : (R.row a).all (fun u => u.oneCell') = true) (hn : (l.length + 1) * by_ ≤ 140737488355328) (hm : l.length + 1 ≤ maxLen)
    (hK : ∀ v' M', Acc R e B M' v' (l ++ [a]) → Same B S.M M' → (∀ (i : Nat) s, Apart v i → S.M[i]? = some s → M'[i]? = some s ∧ Apart v' i) → K v' M') : appendK P b S K t tx v x :=
  h.extend2 (ls := [a]) hb hB hq hz (by rw [hs]; simp [cellsL]) (by simpa [cellsL] using h1) (by simpa using hn) (by simpa using hm) hK
theorem cloneX {P : Program} {R : RecV α k} {e t : TypeId} {B b by_ : Nat} {S : St} {ad : Addr} {n c : Nat} {l : List α} {K : Value → Mem → Prop} (h : Sl R S.M (some ad) n l) (hk : 0 < k) (hA : Acc R e B S.M (.slice (some ⟨B, 0, none⟩) 0 0) []) (hb : b ≤ B) (hB : B ≤ S.M.length) (hq : qSlice P t = some (e, k, by_)) (ht : ∃ e', P.underlying t = some (.slice e'))
    (hz : (P.info? e).any (fun i => i.zero.any fun z => z.cells.size == k) = true) (h1 : (cellsL R l).all (fun u => u.oneCell') = true) (hn : n * by_ ≤ 140737488355328) (hm : n ≤ maxLen) (hK : ∀ v' M', Acc R e B M' v' l → Same B S.M M' → K v' M') : appendK P b S K t t (.slice (some ⟨B, 0, none⟩) 0 0) (.slice (some ad) n c) := by
  have hl := h.1
  refine hA.extend (ls := l) hb hB hq hz (h.src hk ht) h1 (by simpa [hl] using hn) (by simpa [hl] using hm) ?_
  intro v' M' a b
  exact hK v' M' (by simpa using a) b
theorem Acc.fresh {R : RecV α k} {e : TypeId} {M M' : Mem} {v : Value} {l : List α} (h : Acc R e M.length M' v l) (hn : l.length ≤ 1099511627776) (hk : Keeps M M') : Fresh R M v M' l := by
  obtain ⟨A, n, c, rfl, hl, hA⟩ := h
  refine ⟨A, n, c, rfl, by omega, ?_⟩
  rcases hA with ⟨rfl, rfl, rfl⟩ | ⟨id, t, rfl, hid, hr⟩
  · exact ⟨⟨hl, fun h => by omega⟩, by simp, fun h => by omega, hk⟩
  · exact ⟨⟨hl, fun _ => ⟨id, 0, rfl, by simp [rowEsz, hr], fun j x hx => by simp [cellAt, hr, hx]⟩⟩, fun a e => by injection e with e; subst e; exact hid, fun _ => ⟨_, _, _, rfl, hr, rfl⟩, hk⟩
theorem OwL.nil {R : RecV α k} {lo hi : Nat} {M : Mem} : OwL R lo hi M (.slice none 0 0) [] := by
  refine ⟨none, 0, 0, rfl, by omega, ⟨rfl, fun h => by omega⟩, ?_, ?_⟩
  · intro a h; cases h
  · intro h; omega
end
end Go.Proofs.YtbpaeonfebmomaaDoor

namespace Go.Proofs.YtbpaeonfebmomaaDoor
open Go.RowKit
set_option linter.unusedVariables false
set_option linter.unusedSimpArgs false
set_option maxRecDepth 100000
attribute [local simp] List.getElem?_cons_zero
attribute [local irreducible] awCond awCall awLoop awDraw ow retQ retC resQ Keeps
def byteR : RecV Int 1 := ⟨fun n => [.int .u8 n], fun _ => rfl⟩
theorem cellsL_byte (l : List Int) : cellsL byteR l = l.map (.int .u8) := by
  induction l with
  | nil => rfl
  | cons a l ih => rw [cellsL_cons, ih]; rfl
def bstr (l : List Int) : ByteArray := ⟨(l.map fun n => UInt8.ofNat n.toNat).toArray⟩
theorem mapM_byte : ∀ (l : List Int), (cellsL byteR l).mapM byteV = some (l.map fun n => UInt8.ofNat n.toNat)
  | [] => rfl
  | a :: l => by
    rw [cellsL_cons, show byteR.row a ++ cellsL byteR l = .int .u8 a :: cellsL byteR l from rfl, List.mapM_cons, mapM_byte l]
    rfl
theorem byte_one (l : List Int) : (cellsL byteR l).all (fun u => u.oneCell') = true := by
  rw [cellsL_byte, List.all_map, List.all_eq_true]
  exact fun x _ => rfl
theorem acc_str {P : Program} {S : St} {src dst e : TypeId} {B by_ : Nat} {u : Value} {l : List Int} {K : Value → Mem → Prop} (hA : Acc byteR e B S.M u l) (h1 : P.underlying dst = some .string) (h2 : qSlice P src = some (e, 1, by_)) (h3 : P.underlying e = some (.int .u8)) (hK : K (.string (bstr l)) S.M) : b2sK P S K src dst u := by
  obtain ⟨A, n, c, rfl, hl, hA⟩ := hA
  subst hl
  refine ⟨h1, ow_iff.2 ⟨_, h2, h3, rfl, ?_⟩⟩
  rcases hA with ⟨rfl, h0, rfl⟩ | ⟨id, t, rfl, hid, hr⟩
  · obtain rfl := List.eq_nil_of_length_eq_zero h0
    exact ⟨⟨rfl, rfl⟩, hK⟩
  · have e : cellsAt S.M id 0 l.length = some (cellsL byteR l) := by
      unfold cellsAt
      rw [hr]
      simp only
      rw [if_pos (by rw [cellsL_len]; omega), List.drop_zero, List.take_of_length_le (by rw [cellsL_len]; omega)]
    exact ow_iff.2 ⟨_, e, ow_iff.2 ⟨_, mapM_byte l, hK⟩⟩

/-- A number's text. -/
def decI (n : Int) : List Int := (Lib.itoa n).map fun c => (c.toNat : Int)
def decS (n : Int) : ByteArray := ⟨(Lib.itoa n).toArray⟩
theorem ofNat_back (c : UInt8) : UInt8.ofNat ((c.toNat : Int)).toNat = c := by simp
theorem bstr_back (l : List UInt8) : bstr (l.map fun c => (c.toNat : Int)) = ⟨l.toArray⟩ := by
  unfold bstr
  rw [List.map_map]
  congr 2
  have e : ((fun n : Int => UInt8.ofNat n.toNat) ∘ fun c : UInt8 => (c.toNat : Int)) = id := funext fun c => ofNat_back c
  rw [e, List.map_id]
theorem bstr_dec (n : Int) : bstr (decI n) = decS n := bstr_back _
theorem decS_size (n : Int) (h0 : -9223372036854775808 ≤ n) (h1 : n ≤ 9223372036854775807) : (decS n).size ≤ 21 := by
  have := Lib.itoa_length_le n h0 h1
  simpa [decS, ByteArray.size] using this
/-- The digits of a number; none of 0. -/
def digI (u : Nat) : List Int := if u = 0 then [] else (Lib.decDigits u).map fun c => (c.toNat : Int)
theorem digI_zero : digI 0 = [] := rfl
theorem digit_back (d : Nat) (h : d < 10) : ((UInt8.ofNat (48 + d)).toNat : Int) = 48 + d := by
  have : (48 + d) % 256 = 48 + d := Nat.mod_eq_of_lt (by omega)
  simp [this]
theorem digI_step {u : Nat} (h : 0 < u) : digI u = digI (u / 10) ++ [((48 + u % 10 : Nat) : Int)] := by
  unfold digI
  rw [if_neg (by omega), Lib.decDigits]
  by_cases h10 : u < 10
  · rw [dif_pos h10, if_pos (by omega)]
    have e : u % 10 = u := Nat.mod_eq_of_lt h10
    simp only [List.map_cons, List.map_nil, List.nil_append, e, digit_back u h10]
    simp
  · rw [dif_neg h10, if_neg (by omega), List.map_append]
    simp only [List.map_cons, List.map_nil, digit_back (u % 10) (Nat.mod_lt _ (by omega))]
    simp
theorem digI_len : ∀ (m u : Nat), u < 10 ^ m → (digI u).length ≤ m
  | 0, u, h => by obtain rfl : u = 0 := by simpa using h; 
                  simp [digI]
  | m + 1, u, h => by
    rcases Nat.eq_zero_or_pos u with rfl | h0
    · simp [digI]
    · rw [digI_step h0]
      have := digI_len m (u / 10) (by rw [Nat.pow_succ] at h; omega)
      simp; omega
theorem decI_pos {u : Nat} (h : 0 < u) : decI (u : Int) = digI u := by
  unfold decI digI
  rw [Lib.itoa_nonneg, if_neg (by omega)]
theorem decI_neg {u : Nat} (h : 0 < u) : decI (-(u : Int)) = 45 :: digI u := by
  unfold decI digI
  rw [Lib.itoa_neg u h, if_neg (by omega)]
  rfl
theorem decI_zero : decI 0 = [48] := by
  have e : Lib.itoa 0 = [48] := by
    have := Lib.itoa_nonneg 0
    simp only [Int.natCast_zero] at this
    rw [this, Lib.decDigits_one (by omega)]
    rfl
  simp [decI, e]
theorem bstr_app (k l : List Int) : bstr (k ++ l) = bstr k ++ bstr l := by
  simp [bstr, ByteArray.ext_iff]
end Go.Proofs.YtbpaeonfebmomaaDoor

namespace Go.Proofs.YtbpaeonfebmomaaDoor
open Go.Shelf Go.Lib Go.Sort
def fmtInt_ren : Go.Shelf.Ren := ⟨fun | 173 => 17 | 246 => 22 | 283 => 23 | 284 => 24 | 285 => 25 | 286 => 26 | 129 => 28 | 317 => 27 | 318 => 29 | 319 => 30 | 320 => 31 | 337 => 32 | 338 => 33 | n => n, fun | 2 => 2 | 3 => 3 | 9 => 9 | 4 => 4 | 171 => 44 | 0 => 0 | 53 => 45 | 37 => 38 | 5 => 5 | 173 => 48 | 212 => 52 | 51 => 53 | 20 => 20 | 213 => 54 | 46 => 56 | 232 => 59 | 233 => 60 | n => n, fun | 17 => 0 | 18 => 1 | 19 => 2 | n => n⟩
theorem fmtInt : Go.Proofs.LaysM.n173 Tryd.prog fmtInt_ren := {
  mixed := by kernel_rfl
  f129 := Tryd.func28.trans (congrArg some (by kernel_rfl))
  f173 := Tryd.func17.trans (congrArg some (by kernel_rfl))
  f246 := Tryd.func22.trans (congrArg some (by kernel_rfl))
  f283 := Tryd.func23.trans (congrArg some (by kernel_rfl))
  f284 := Tryd.func24.trans (congrArg some (by kernel_rfl))
  f285 := Tryd.func25.trans (congrArg some (by kernel_rfl))
  f286 := Tryd.func26.trans (congrArg some (by kernel_rfl))
  f317 := Tryd.func27.trans (congrArg some (by kernel_rfl))
  f318 := Tryd.func29.trans (congrArg some (by kernel_rfl))
  f319 := Tryd.func30.trans (congrArg some (by kernel_rfl))
  f320 := Tryd.func31.trans (congrArg some (by kernel_rfl))
  f337 := Tryd.func32.trans (congrArg some (by kernel_rfl))
  f338 := Tryd.func33.trans (congrArg some (by kernel_rfl))
  t0 := Tryd.underlying0
  a0 := Tryd.isAgg0
  z0 := Tryd.sizeOf0
  v0 := Tryd.zeroValue0
  t2 := Tryd.underlying2
  a2 := Tryd.isAgg2
  z2 := Tryd.sizeOf2
  v2 := Tryd.zeroValue2
  t3 := Tryd.underlying3
  a3 := Tryd.isAgg3
  z3 := Tryd.sizeOf3
  v3 := Tryd.zeroValue3
  t4 := Tryd.underlying4
  a4 := Tryd.isAgg4
  z4 := Tryd.sizeOf4
  v4 := Tryd.zeroValue4
  t5 := Tryd.underlying5
  a5 := Tryd.isAgg5
  z5 := Tryd.sizeOf5
  v5 := Tryd.zeroValue5
  t9 := Tryd.underlying9
  a9 := Tryd.isAgg9
  z9 := Tryd.sizeOf9
  v9 := Tryd.zeroValue9
  t20 := Tryd.underlying20
  a20 := Tryd.isAgg20
  z20 := Tryd.sizeOf20
  v20 := Tryd.zeroValue20
  t37 := Tryd.underlying38
  a37 := Tryd.isAgg38
  z37 := Tryd.sizeOf38
  v37 := Tryd.zeroValue38
  t46 := Tryd.underlying56
  a46 := Tryd.isAgg56
  z46 := Tryd.sizeOf56
  v46 := Tryd.zeroValue56
  t51 := Tryd.underlying53
  a51 := Tryd.isAgg53
  z51 := Tryd.sizeOf53
  v51 := Tryd.zeroValue53
  t53 := Tryd.underlying45
  a53 := Tryd.isAgg45
  z53 := Tryd.sizeOf45
  v53 := Tryd.zeroValue45
  t171 := Tryd.underlying44
  a171 := Tryd.isAgg44
  z171 := Tryd.sizeOf44
  v171 := Tryd.zeroValue44
  t173 := Tryd.underlying48
  a173 := Tryd.isAgg48
  z173 := Tryd.sizeOf48
  v173 := Tryd.zeroValue48
  t212 := Tryd.underlying52
  a212 := Tryd.isAgg52
  z212 := Tryd.sizeOf52
  v212 := Tryd.zeroValue52
  t213 := Tryd.underlying54
  a213 := Tryd.isAgg54
  z213 := Tryd.sizeOf54
  t232 := Tryd.underlying59
  a232 := Tryd.isAgg59
  z232 := Tryd.sizeOf59
  v232 := Tryd.zeroValue59
  t233 := Tryd.underlying60
  a233 := Tryd.isAgg60
  z233 := Tryd.sizeOf60
  v233 := Tryd.zeroValue60
  g17 := by kernel_rfl
  g18 := by kernel_rfl
  g19 := by kernel_rfl
  i0 := by kernel_rfl
  i2 := by kernel_rfl
  i3 := by kernel_rfl
  i4 := by kernel_rfl
  i5 := by kernel_rfl
  i9 := by kernel_rfl
  i20 := by kernel_rfl
  i37 := by kernel_rfl
  i46 := by kernel_rfl
  i51 := by kernel_rfl
  i53 := by kernel_rfl
  i171 := by kernel_rfl
  i173 := by kernel_rfl
  i212 := by kernel_rfl
  i232 := by kernel_rfl
  i233 := by kernel_rfl
  m17 := by kernel_rfl
  m18 := by kernel_rfl
  m19 := by kernel_rfl }

theorem tab_of {w : World} {name : String} (hn : Tryd.prog.globalNamed name = some 0) (h : GOk w.heap[gB]?) : Lib.TabIs Tryd.prog w name .u64 Lib.pow10Tab := by
  obtain ⟨e, fr, h⟩ := h
  have e0 : gB = 0 := rfl
  rw [e0] at h
  unfold Lib.TabIs World.var?
  rw [hn]
  simp only [Option.bind_some, h]
theorem grow_sim {M : Mem} {μ : Map} {w : World} {b : Nat} (hS : Sim M μ w) (k : Nat) (os : Array Obj) : Sim M μ (grow (w.drewN k) os) ∧ Step b M μ w M μ (grow (w.drewN k) os) := by
  have hb : ∀ i, i < w.heap.size → (grow (w.drewN k) os).heap[i]? = w.heap[i]? := fun i hi => heap_grow_old (w.drewN k) os hi
  have hs : w.heap.size ≤ (grow (w.drewN k) os).heap.size := by rw [size_grow]; exact Nat.le_add_right _ _
  exact ⟨hS.grow hb hs, fun i s h => ⟨s, h, Slot.evolves_refl _ _⟩, fun _ _ => ⟨rfl, rfl⟩, rfl, rfl, rfl, hs, fun i hi _ => hb i hi, fun i r' hi h => absurd (List.getElem?_eq_some_iff.1 h).1 (by omega)⟩
theorem FormatInt_a {M : Mem} {b : Nat} (n : Int) (h0 : -9223372036854775808 ≤ n) (h1 : n ≤ 9223372036854775807) : Det Tryd.prog b 17 [iv n, iv 10] M (.string (decS n)) M := by
  refine ⟨⟨_, Tryd.func17, rfl, rfl⟩, fun μ w cs hl hS => ?_⟩
  obtain rfl : cs = [iv n, iv 10] := by
    match cs, hl with
    | [u, v], h =>
      have a1 := (h.2 0 _ _ rfl rfl).of_plain (show plainV (iv n) = true from rfl)
      have a2 := (h.2 1 _ _ rfl rfl).of_plain (show plainV (iv 10) = true from rfl)
      rw [a1, a2]
    | [], h => have := h.1; simp at this
    | [_], h => have := h.1; simp at this
    | _ :: _ :: _ :: _, h => have := h.1; simp at this
  refine Calls.mono (Any.strconv_FormatInt_10 fmtInt n h0 h1 w (tab_of (by kernel_rfl) (hS.glob rfl).1)) ?_
  rintro e w' ⟨rfl, k, os, rfl⟩
  obtain ⟨g1, g2⟩ := grow_sim (b := b) hS k os
  exact ⟨_, μ, rfl, .plain rfl, g1, g2⟩
end Go.Proofs.YtbpaeonfebmomaaDoor

namespace Go.Proofs.YtbpaeonfebmomaaDoor
open Go.RowKit
set_option linter.unusedVariables false
set_option linter.unusedSimpArgs false
set_option maxRecDepth 100000
attribute [local simp] List.getElem?_cons_zero
attribute [local irreducible] awCond awCall awLoop awDraw ow retQ retC resQ Keeps
theorem wrap_u8 {x : Int} (h1 : 0 ≤ x) (h2 : x ≤ 255) : IntKind.u8.wrap x = x := by
  have e : (2 : Int) ^ IntKind.u8.bits = 256 := by decide
  have e2 : IntKind.u8.signed = false := rfl
  simp only [IntKind.wrap, e, e2]
  simp
  omega
/-- At most f bytes, from p on. -/
theorem fill_byte {z : Value} {kd : IntKind} {n : Int} : Instr.fill (fun i => some (i, 1)) (zrow [z] 1).toArray [(0, .int kd n)] = some #[.int kd n] := by
  have := fill_int (z := z) (kd := kd) (n := n)
  simpa using this
theorem Decimal_a {M : Mem} (n : Int) (h0 : -9223372036854775808 ≤ n) (h1 : n ≤ 9223372036854775807) : Det Tryd.prog M.length 13 [iv n] M (.string (decS n)) M := by
  first | (refine det_fn Tryd.func13 rfl Tryd.ntmps13 Tryd.results13 rfl rfl rfl (by simp) ?_) | (refine det_fnC Tryd.func13 rfl Tryd.ntmps13 Tryd.results13 rfl rfl (by simp) ?_)
  simp
  refine awCall_det' (FormatInt_a (b := M.length) n h0 h1) (by omega) ?_
  simp [Keeps.refl]
theorem tmod_ten (q : Int) : q.tmod 10 = if 0 ≤ q then ((q.natAbs % 10 : Nat) : Int) else -((q.natAbs % 10 : Nat) : Int) := by
  split
  · rename_i h
    obtain ⟨c, rfl⟩ := Int.eq_ofNat_of_zero_le h
    rw [Int.tmod_eq_emod_of_nonneg (by omega)]
    simp
  · rename_i h
    obtain ⟨c, rfl⟩ : ∃ c : Nat, q = -(c : Int) := ⟨q.natAbs, by omega⟩
    rw [Int.neg_tmod, Int.tmod_eq_emod_of_nonneg (by omega)]
    simp
theorem tdiv_ten (q : Int) : (q.tdiv 10).natAbs = q.natAbs / 10 := by
  by_cases h : 0 ≤ q
  · obtain ⟨c, rfl⟩ := Int.eq_ofNat_of_zero_le h
    rw [Int.tdiv_eq_ediv_of_nonneg (by omega)]
    omega
  · obtain ⟨c, rfl⟩ : ∃ c : Nat, q = -(c : Int) := ⟨q.natAbs, by omega⟩
    rw [Int.neg_tdiv, Int.tdiv_eq_ediv_of_nonneg (by omega)]
    omega
set_option maxHeartbeats 1600000 in
theorem l01Dec_c {M : Mem} (n : Int) (h0 : -9223372036854775808 ≤ n) (h1 : n ≤ 9223372036854775807) : Ctr Tryd.prog M.length 10 [iv n] M fun v M' => v = .string (decS n) ∧ Keeps M M' := by
  first | (refine ctr_fn Tryd.func10 rfl Tryd.ntmps10 Tryd.results10 rfl rfl (by simp) ?_) | (refine ctr_fnC Tryd.func10 rfl Tryd.ntmps10 Tryd.results10 rfl (by simp) ?_)
  simp
  refine awLoop_T (fun m T M' => ∃ (q : Int) (l : List Int) (u : Value), Keeps M M' ∧ q.natAbs < 10 ^ m ∧ (-9223372036854775808 ≤ q ∧ q ≤ 9223372036854775807) ∧ l.length + m ≤ 19 ∧ digI n.natAbs = digI q.natAbs ++ l ∧ Acc byteR 5 M.length M' u l ∧ look T 4 = some (iv q) ∧ look T 3 = some u ∧ look T 0 = some (iv n)) 19 ⟨n, [], .slice (some ⟨M.length, 0, none⟩) 0 0, keeps_app _, by omega, ⟨h0, h1⟩, by simp, by simp, ⟨some ⟨M.length, 0, none⟩, 0, 0, rfl, by simp, .inr ⟨M.length, true, rfl, Nat.le_refl _, by simp [cellsL_byte]⟩⟩, by simp, by simp, by simp⟩ ?_
  rintro m T M' ⟨q, l, u, hK, hq, hqn, hl, hv, hA, h4, h3, h0'⟩
  have hKl := hK.len
  by_cases hz : q = 0
  · subst hz
    have hv' : digI n.natAbs = l := by rw [hv]; simp [digI]
    clear hv
    obtain ⟨A, nn, c, rfl, hln, -⟩ := id hA
    subst hln
    by_cases hn0 : n = 0
    · subst hn0
      have hl0 : l = [] := by rw [← hv']; rfl
      subst hl0
      simp (disch := omega) [h4, h3]
      refine ⟨?_, hK⟩
      rw [← bstr_dec, decI_zero]
      rfl
    · have hln : l.length ≠ 0 := by
        intro e
        have hl0 := List.eq_nil_of_length_eq_zero e
        subst hl0
        have hs := digI_step (u := n.natAbs) (by omega)
        rw [hv'] at hs
        have := congrArg List.length hs
        simp at this
      have hln' : ¬ (l.length : Int) = 0 := by omega
      by_cases hneg : n < 0
      · simp (disch := omega) [h4, h3, h0', hln, hln', hneg]
        refine acc_str (by_ := 1) (by exact hA) Tryd.underlying9 (by simp) Tryd.underlying5 ?_
        have hsz : (bstr l).size = l.length := by simp [bstr, ByteArray.size]
        have hsz1 : (⟨#[45]⟩ : ByteArray).size = 1 := rfl
        have hcc : ((⟨#[45]⟩ : ByteArray).size + (bstr l).size : Nat) ≤ 9223372036854775807 := by omega
        have hcc' : ¬ (((⟨#[45]⟩ : ByteArray).size + (bstr l).size : Nat) : Int) > IntKind.i64.max := by show ¬ _ > (9223372036854775807 : Int); omega
        simp only [strV, binV_str, hcc', if_false]
        simp
        refine ⟨?_, hK⟩
        obtain ⟨c0, rfl⟩ : ∃ c0 : Nat, n = -(c0 : Int) := ⟨n.natAbs, by omega⟩
        have e : (-(c0 : Int)).natAbs = c0 := by omega
        rw [e] at hv'
        rw [← bstr_dec, decI_neg (by omega), hv', show (45 :: l) = [45] ++ l from rfl, bstr_app]
        rfl
      · simp (disch := omega) [h4, h3, h0', hln, hln', hneg]
        refine acc_str (by_ := 1) (by exact hA) Tryd.underlying9 (by simp) Tryd.underlying5 ?_
        simp
        refine ⟨?_, hK⟩
        obtain ⟨c0, rfl⟩ : ∃ c0 : Nat, n = (c0 : Int) := ⟨n.natAbs, by omega⟩
        have e : (c0 : Int).natAbs = c0 := by omega
        rw [e] at hv'
        rw [← bstr_dec, decI_pos (by omega), hv']
  · obtain ⟨m, rfl⟩ : ∃ m', m = m' + 1 := ⟨m - 1, by rcases m with _ | m <;> simp at hq ⊢; omega⟩
    have hq0 : 0 < q.natAbs := by omega
    have hqb := hqn
    have hs := digI_step hq0
    have ht := tmod_ten q
    have hr : q.natAbs % 10 < 10 := Nat.mod_lt _ (by omega)
    obtain ⟨r, hr'⟩ : ∃ r : Nat, r = q.natAbs % 10 := ⟨_, rfl⟩
    rw [← hr'] at ht hs hr
    have hqd := tdiv_ten q
    have hdb : -9223372036854775808 ≤ q.tdiv 10 ∧ q.tdiv 10 ≤ 9223372036854775807 := by omega
    have hdg : digI n.natAbs = digI (q.tdiv 10).natAbs ++ ([((48 + r : Nat) : Int)] ++ l) := by rw [hv, hs, hqd, List.append_assoc]
    have hlt : (q.tdiv 10).natAbs < 10 ^ m := by rw [hqd]; rw [Nat.pow_succ] at hq; omega
    by_cases hp : 0 ≤ q
    · rw [if_pos hp] at ht
      have hnl : ¬ (r : Int) < 0 := by omega
      simp (disch := omega) [h4, h3, h0', hz, ht, hnl, wrap_in, wrap_u8, fill_byte]
      refine Acc.extend (R := byteR) (e := 5) (by_ := 1) (B := M.length) (l := [((48 + r : Nat) : Int)]) (ls := l) ⟨some ⟨M'.length, 0, none⟩, 1, 1, rfl, rfl, .inr ⟨M'.length, true, rfl, hKl, by simp [cellsL_byte]⟩⟩ (Nat.le_refl _) (by simp; omega) (by simp) (by kernel_rfl) ((hA.keeps (keeps_app _)).src ⟨_, Tryd.underlying38⟩) (byte_one _) (by simp; omega) (by unfold maxLen; simp; omega) ?_
      intro v2 M2 hA2 hS2
      have hK2 := hS2.keeps (hK.app _) (Nat.le_refl _)
      refine lpI m (by omega) ?_
      exact ⟨q.tdiv 10, _, v2, hK2, hlt, hdb, by simp; omega, hdg, hA2, by simp, by simp, by simp [h0']⟩
    · rw [if_neg hp] at ht
      by_cases hr0 : r = 0
      · subst hr0
        simp only [Int.natCast_zero, Int.neg_zero] at ht
        simp (disch := omega) [h4, h3, h0', hz, ht, wrap_in, wrap_u8, fill_byte]
        refine Acc.extend (R := byteR) (e := 5) (by_ := 1) (B := M.length) (l := [((48 + 0 : Nat) : Int)]) (ls := l) ⟨some ⟨M'.length, 0, none⟩, 1, 1, rfl, rfl, .inr ⟨M'.length, true, rfl, hKl, by simp [cellsL_byte]⟩⟩ (Nat.le_refl _) (by simp; omega) (by simp) (by kernel_rfl) ((hA.keeps (keeps_app _)).src ⟨_, Tryd.underlying38⟩) (byte_one _) (by simp; omega) (by unfold maxLen; simp; omega) ?_
        intro v2 M2 hA2 hS2
        have hK2 := hS2.keeps (hK.app _) (Nat.le_refl _)
        refine lpI m (by omega) ?_
        exact ⟨q.tdiv 10, _, v2, hK2, hlt, hdb, by simp; omega, hdg, hA2, by simp, by simp, by simp [h0']⟩
      · have hnl : 0 < r := by omega
        simp (disch := omega) [h4, h3, h0', hz, ht, hnl, wrap_in, wrap_u8, fill_byte]
        refine Acc.extend (R := byteR) (e := 5) (by_ := 1) (B := M.length) (l := [((48 + r : Nat) : Int)]) (ls := l) ⟨some ⟨M'.length, 0, none⟩, 1, 1, rfl, rfl, .inr ⟨M'.length, true, rfl, hKl, by simp [cellsL_byte]⟩⟩ (Nat.le_refl _) (by simp; omega) (by simp) (by kernel_rfl) ((hA.keeps (keeps_app _)).src ⟨_, Tryd.underlying38⟩) (byte_one _) (by simp; omega) (by unfold maxLen; simp; omega) ?_
        intro v2 M2 hA2 hS2
        have hK2 := hS2.keeps (hK.app _) (Nat.le_refl _)
        refine lpI m (by omega) ?_
        exact ⟨q.tdiv 10, _, v2, hK2, hlt, hdb, by simp; omega, hdg, hA2, by simp, by simp, by simp [h0']⟩
theorem l01Dec_a {M : Mem} (n : Int) (h0 : -9223372036854775808 ≤ n) (h1 : n ≤ 9223372036854775807) : Det Tryd.prog M.length 10 [iv n] M (.string (decS n)) M := (l01Dec_c n h0 h1).pure rfl
end Go.Proofs.YtbpaeonfebmomaaDoor

namespace Go.Proofs.YtbpaeonfebmomaaDoor
open Go.RowKit
set_option linter.unusedVariables false
set_option linter.unusedSimpArgs false
set_option maxRecDepth 100000
attribute [local simp] List.getElem?_cons_zero
attribute [local irreducible] awCond awCall awLoop awDraw ow retQ retC resQ Keeps
theorem within_a {M : Mem} (n lo hi : Int) : Det Tryd.prog M.length 21 [iv n, iv lo, iv hi] M (.bool (inB n lo hi)) M := by
  first | (refine det_fn Tryd.func21 rfl Tryd.ntmps21 Tryd.results21 rfl rfl rfl (by simp) ?_) | (refine det_fnC Tryd.func21 rfl Tryd.ntmps21 Tryd.results21 rfl rfl (by simp) ?_)
  simp
  repeat' (first | (refine guardV_split ?_ ?_ <;> intro _) | (simp [*]))
  all_goals (simp_all [inB, Keeps.refl] <;> omega)
theorem l00In_a {M : Mem} (n lo hi : Int) : Det Tryd.prog M.length 18 [iv n, iv lo, iv hi] M (.bool (inB n lo hi)) M := by
  first | (refine det_fn Tryd.func18 rfl Tryd.ntmps18 Tryd.results18 rfl rfl rfl (by simp) ?_) | (refine det_fnC Tryd.func18 rfl Tryd.ntmps18 Tryd.results18 rfl rfl (by simp) ?_)
  simp
  repeat' (first | (refine guardV_split ?_ ?_ <;> intro _) | (simp [*]))
  all_goals (simp_all [inB, Keeps.refl] <;> omega)
theorem isVoice_a {M : Mem} (n : Int) : Det Tryd.prog M.length 19 [iv n] M (.bool (inB n 0 3)) M := by
  first | (refine det_fn Tryd.func19 rfl Tryd.ntmps19 Tryd.results19 rfl rfl rfl (by simp) ?_) | (refine det_fnC Tryd.func19 rfl Tryd.ntmps19 Tryd.results19 rfl rfl (by simp) ?_)
  simp
  refine awCall_det' (within_a _ _ _) (by simp) ?_
  simp [Keeps.refl]
theorem isKey_a {M : Mem} (n : Int) : Det Tryd.prog M.length 20 [iv n] M (.bool (inB n 0 127)) M := by
  first | (refine det_fn Tryd.func20 rfl Tryd.ntmps20 Tryd.results20 rfl rfl rfl (by simp) ?_) | (refine det_fnC Tryd.func20 rfl Tryd.ntmps20 Tryd.results20 rfl rfl (by simp) ?_)
  simp
  refine awCall_det' (within_a _ _ _) (by simp) ?_
  simp [Keeps.refl]
end Go.Proofs.YtbpaeonfebmomaaDoor
