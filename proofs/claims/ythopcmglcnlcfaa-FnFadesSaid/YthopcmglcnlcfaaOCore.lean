/- Words and small lemmas for all walks of this seat: a slice that reads as a list, and the given law helpers on lists of integers. No conditions. -/
import Derived.Test.YthopcmglcnlcfaaRows
import Derived.WalkKit
import Derived.WalkSpells
import Derived.WalkLawsBesides
import Derived.Deep.QuietTactic
import Derived.Deep.Draws
import Derived.BigQuiet
import Derived.Lib.Hide
namespace Go.Proofs.Ythopcmglcnlcfaa.Old
open Go.RowKit

abbrev iv (n : Int) : Value := .int .i64 n
def ints (l : List Int) : List Value := l.map iv
def gi (l : List Int) (k : Nat) : Int := l.getD k 0
theorem ints_len (l : List Int) : (ints l).length = l.length := by simp [ints]
theorem ints_get {l : List Int} {k : Nat} (h : k < l.length) : (ints l)[k]? = some (iv (gi l k)) := by
  simp [ints, gi, h]
theorem ints_snoc (l : List Int) (z : Int) : ints (l ++ [z]) = ints l ++ [iv z] := by simp [ints]
theorem ints_app (l m : List Int) : ints (l ++ m) = ints l ++ ints m := by simp [ints]
theorem gi_eq {l : List Int} {k : Nat} (h : k < l.length) : l[k] = gi l k := by simp [gi, h]

/-- The slice .slice A n c reads in w as the cells xs, s cells an element. -/
def Rd (w : World) (s : Nat) (A : Option Addr) (n c : Nat) (xs : List Value) : Prop :=
  xs.length = n * s ∧ n ≤ c ∧ c ≤ maxLen ∧ (0 < n → ∃ ad : Addr, A = some ad ∧ ad.block < w.heap.size ∧ ∀ j u, xs[j]? = some u → w.cell? (ad.add j) = some u)

theorem block_add (a : Addr) (n : Nat) : (a.add n).block = a.block := by unfold Addr.add; split <;> rfl
theorem add_add' (a : Addr) (i j : Nat) : (a.add i).add j = a.add (i + j) := by
  unfold Addr.add
  by_cases hi : i = 0 <;> by_cases hj : j = 0 <;> simp [hi, hj, Nat.add_assoc]

theorem Rd.below {w w' : World} {s n c : Nat} {A : Option Addr} {xs : List Value} (h : Rd w s A n c xs) (hb : Below w.heap.size w w') : Rd w' s A n c xs := by
  refine ⟨h.1, h.2.1, h.2.2.1, fun hn => ?_⟩
  obtain ⟨ad, e, hlt, hc⟩ := h.2.2.2 hn
  exact ⟨ad, e, Nat.lt_of_lt_of_le hlt hb.size, fun j u hu => (hb.cell (p := ad.add j) (by rw [block_add]; exact hlt)).trans (hc j u hu)⟩

theorem Rd.ints_at {w : World} {A : Option Addr} {n c : Nat} {l : List Int} (h : Rd w 1 A n c (ints l)) {k : Nat} (hk : k < n) :
    ∃ ad : Addr, A = some ad ∧ ad.block < w.heap.size ∧ w.cell? (ad.add k) = some (iv (gi l k)) := by
  obtain ⟨ad, e, hlt, hc⟩ := h.2.2.2 (by omega)
  have := h.1
  rw [ints_len] at this
  exact ⟨ad, e, hlt, hc k _ (ints_get (by omega))⟩

theorem retb {a b : Bool} (h : a = b) : Ending.returned (.bool a) = .returned (.bool b) := by rw [h]
theorem reti {k : IntKind} {a b : Int} (h : a = b) : Ending.returned (.int k a) = .returned (.int k b) := by rw [h]
theorem below_drewN {B : Nat} {a w : World} (h : Below B a w) (n : Nat) : Below B a (w.drewN n) := ⟨h.os, h.tape, h.output, h.size, h.block⟩

theorem take_eq_step {l m : List Int} {k : Nat} (h : l.take k = m.take k) (hl : k < l.length) (hm : k < m.length) (he : gi l k = gi m k) : l.take (k + 1) = m.take (k + 1) := by
  rw [List.take_succ_eq_append_getElem hl, List.take_succ_eq_append_getElem hm, h, gi_eq, gi_eq, he]

set_option maxHeartbeats 400000 in
/-- The given helper on lists: are they equal? -/
theorem eqInt64S_any (A C : Option Addr) (n c m d : Nat) (x y : List Int) (w : World) (hx : Rd w 1 A n c (ints x)) (hy : Rd w 1 C m d (ints y)) :
    Calls Try.prog 47 #[.slice A n c, .slice C m d] w fun e w' => e = .returned (.bool (decide (x = y))) ∧ ∃ k, w' = w.drewN k := by
  have hc := hx.2.1
  have hcm := hx.2.2.1
  unfold maxLen at hcm
  have Hn : Hid (x.length = n) := by have := hx.1; rw [ints_len] at this; show _ = _; omega
  have Hm : Hid (y.length = m) := by have := hy.1; rw [ints_len] at this; show _ = _; omega
  by_cases hnm : n = m
  · subst hnm
    go_enter Try.func47, Try.ntmps47
    go_wp2
    go_loopw [5] (fun i wr => ∃ k : Nat, i = iv k ∧ k ≤ n ∧ x.take k = y.take k ∧ ∃ q, wr = w.drewN q) (fun i _ => n - (intOf i).toNat)
    case atStart => exact ⟨0, rfl, Nat.zero_le _, rfl, 0, rfl⟩
    case round =>
      obtain ⟨k, rfl, hk, ht, q, rfl⟩ := hrel
      have Ht := Lib.hid ht
      clear ht
      by_cases hlt : k < n
      · obtain ⟨a1, rfl, -, h1⟩ := hx.ints_at hlt
        obtain ⟨a2, rfl, -, h2⟩ := hy.ints_at hlt
        go_wp2
        go_quiet (fail)
        by_cases he : gi x k = gi y k
        · have he' : (gi x k != gi y k) = false := by simp [he]
          have He := Lib.hid he
          clear he
          go_wp2
          go_roundw
          case rel => exact ⟨k + 1, by go_num, by omega, take_eq_step Ht.out (by rw [Hn.out]; exact hlt) (by rw [Hm.out]; exact hlt) He.out, _, rfl⟩
          case measure => simp [intOf]; omega
        · have he' : (gi x k != gi y k) = true := by simp [he]
          go_wp2
          go_ret
          exact ⟨retb (decide_eq_false (by rintro rfl; exact he rfl)).symm, _, World.drewN_drewN _ _ _⟩
      · go_wp2
        go_ret
        have hkn : k = n := by omega
        refine ⟨retb (decide_eq_true ?_).symm, _, rfl⟩
        have := Ht.out
        rwa [List.take_of_length_le (by rw [Hn.out]; omega), List.take_of_length_le (by rw [Hm.out]; omega)] at this
  · go_enter Try.func47, Try.ntmps47
    go_wp2
    go_ret
    exact ⟨retb (decide_eq_false (by rintro rfl; exact hnm (by rw [← Hn.out, ← Hm.out]))).symm, 0, rfl⟩
theorem info_i64 : (Try.prog.info? 2).map (fun i => (i.zero, i.size, i.bytes)) = some (some (.int .i64 0), 1, 8) := by kernel_rfl

/-- The value v is a slice of integers of the call's own, from block base on. -/
def OwnI (w : World) (base : Nat) (v : Value) (l : List Int) : Prop := w.ownsRow base 2 1 v l.length (ints l)

theorem fill_step (l : List Int) (n k : Nat) (h : l.length = n) (hk : k < n) :
    (ints (l.take k) ++ List.replicate (n - k) (iv 0)).set k (iv (gi l k)) = ints (l.take (k + 1)) ++ List.replicate (n - (k + 1)) (iv 0) := by
  have e : List.replicate (n - k) (iv 0) = iv 0 :: List.replicate (n - (k + 1)) (iv 0) := by
    rw [show n - k = (n - (k + 1)) + 1 by omega, List.replicate_succ]
  rw [List.take_succ_eq_append_getElem (by omega), e, List.set_append_right _ _ (by simp [ints]; omega)]
  simp [ints, gi_eq, show k - min k l.length = 0 by omega]

theorem own_cell {w : World} {base : Nat} {e : TypeId} {size g n cap : Nat} {xs : List Value} (h : w.ownsRow base e size (.slice (some ⟨g, 0, none⟩) n cap) n xs) {j : Nat} (hj : j < n * size) :
    ∃ u, xs[j]? = some u ∧ w.cell? ⟨g, j, none⟩ = some u ∧ w.frozen? ⟨g, j, none⟩ = false := by
  have hl := h.1
  exact ⟨xs[j]'(by omega), List.getElem?_eq_getElem (by omega), (h.cellAt j hj).trans (List.getElem?_eq_getElem (by omega)), h.frozenAt j⟩

set_option maxHeartbeats 400000 in
/-- The given helper that copies a list. -/
theorem toInt64S_any (A : Option Addr) (n c : Nat) (l : List Int) (w : World) (hx : Rd w 1 A n c (ints l)) (hb : n ≤ 17592186044416) :
    Calls Try.prog 94 #[.slice A n c] w fun e w' => ∃ v, e = .returned v ∧ OwnI w' w.heap.size v l ∧ Below w.heap.size w w' := by
  have hc := hx.2.1
  have Hn : Hid (l.length = n) := by have := hx.1; rw [ints_len] at this; show _ = _; omega
  obtain ⟨i0, hi, hz0, hz1, hz2⟩ := info_parts info_i64
  have hcm := hx.2.2.1
  unfold maxLen at hcm
  go_enter Try.func94, Try.ntmps94
  go_wp2_with (at_make; refine wpList_make_full _ rfl _ _ 24 rfl w.heap.size 2 i0 (.int .i64 0) 1 Try.underlying24 hi hz0 hz1 _ _ _ _ n rfl rfl rfl rfl (by rw [hz2]; omega) (by unfold maxLen; omega) (Nat.le_refl _) ?_; intro w1 hown hgrow)
  have hb1 : Below w.heap.size w w1 := (Below.refl _ _).grown hgrow (Nat.le_refl _) (by simp)
  go_loopw [4] (fun i wr => ∃ k : Nat, i = iv k ∧ k ≤ n ∧ Below w.heap.size w wr ∧
      wr.ownsRow w.heap.size 2 1 (.slice (some ⟨w.heap.size, 0, none⟩) n n) n (ints (l.take k) ++ List.replicate (n - k) (iv 0))) (fun i _ => n - (intOf i).toNat)
  case atStart =>
    refine ⟨0, rfl, Nat.zero_le _, hb1, ?_⟩
    have e : (madeCells (Value.int .i64 0).cells (n * 1)).toList = ints (l.take 0) ++ List.replicate (n - 0) (iv 0) := by
      simp [ints, Value.cells, toList_madeCells_one]
    rw [← e]; exact hown
  case round =>
    obtain ⟨k, rfl, hk, hbw, how⟩ := hrel
    clear hown hgrow hb1
    by_cases hlt : k < n
    · obtain ⟨a1, rfl, hab, h1⟩ := hx.ints_at hlt
      have h1' := (hbw.cell (p := a1.add k) (by rw [block_add]; exact hab)).trans h1
      obtain ⟨u, -, hc2, hf2⟩ := own_cell how (j := k) (by omega)
      obtain ⟨how2, hg2⟩ := how.stored k (iv (gi l k))
      rw [fill_step l n k Hn.out hlt] at how2
      have hb2 := hbw.grown hg2 hbw.size (by simp)
      go_wp2
      go_roundw
      case rel => exact ⟨k + 1, by go_num, by omega, hb2, how2⟩
      case measure => simp [intOf]; omega
    · go_wp2
      go_ret
      obtain rfl : k = n := by omega
      refine ⟨_, rfl, ?_, hbw⟩
      unfold OwnI
      have hl : l.length = k := Hn.out
      rw [List.take_of_length_le (by omega), Nat.sub_self] at how
      rw [hl]
      simpa using how

/-- What the program's table says of a slice type t over elements e of some cells. -/
structure ElT (t e : TypeId) (size bytes : Nat) : Prop where
  und : Try.prog.underlying t = some (.slice e)
  inf : ∃ i z, Try.prog.info? e = some i ∧ i.zero = some z ∧ i.size = size ∧ i.bytes = bytes ∧ z.cells.size = size
  pos : 0 < size
  few : bytes ≤ 1024
theorem ElT.of {t e : TypeId} {z : Value} {size bytes : Nat} (h : Try.prog.underlying t = some (.slice e)) (h1 : (Try.prog.info? e).map (fun i => (i.zero, i.size, i.bytes)) = some (some z, size, bytes))
    (h2 : z.cells.size = size) (h3 : 0 < size) (h4 : bytes ≤ 1024) : ElT t e size bytes := by
  obtain ⟨i0, hi, hz0, hz1, hz2⟩ := info_parts h1
  exact ⟨h, ⟨i0, z, hi, hz0, hz1, hz2, h2⟩, h3, h4⟩
theorem el_i64 : ElT 24 2 1 8 := .of Try.underlying24 info_i64 rfl (by omega) (by omega)

theorem bytes_ok {n b : Nat} (hn : n ≤ 68719476736) (hb : b ≤ 1024) : n * b ≤ 140737488355328 := by
  have := Nat.mul_le_mul hn hb
  omega

section
set_option linter.unusedVariables false
set_option maxRecDepth 100000
variable {ops : Array Oper} {rest : List Oper} {o : Oper} {a : Act} {Q : Exit → Act → World → Prop}
/-- append of elements that were just laid in a new block: the operation itself. -/
theorem op_push {t e : TypeId} {size bytes : Nat} (E : ElT t e size bytes) {s x : Operand} {w w0 : World} {base : Nat} {v : Value} {n m : Nat} {xs : List Value} {K : Act → World → Prop} (hown : w0.ownsRow base e size v n xs)
    (hb : base ≤ w0.heap.size) (hn : n + m ≤ 68719476736) (cs : Array Value) (hcs : cs.size = m * size) (hone : cs.toList.all (fun u => u.oneCell') = true)
    (hop : o.op = .call { callee := .builtin .append, args := #[s, x], argTypes := #[t, t] })
    (hs : a.eval s = v) (hx : a.eval x = .slice (some ⟨w0.heap.size, 0, none⟩) m m) (hw : w = w0.alloc (.cells cs e))
    (h : ∀ v' w', w'.ownsRow base e size v' (n + m) (xs ++ cs.toList) → w0.grownBy w' v.ownBlock → Below base w0 w' → K (a.put o.dst v') w') : o.wp Try.prog a w K Q := by
  subst hw
  obtain ⟨i, z, hi, hz, hsz, hby, hzs⟩ := E.inf
  refine wp_append_own _ s x t hop base e i z size bytes E.und hi hz hsz hby hzs E.pos v n xs hs (hown.alloc _) ⟨w0.heap.size, 0, none⟩ m m cs.toList hx (by simpa using hcs) ?_ (List.all_eq_true.1 hone) (by unfold maxLen; omega) (bytes_ok hn E.few) (by simp; omega) ?_
  · intro j u hu
    rw [Addr.add_lit]
    simp only [Nat.zero_add]
    rw [cell_of_row _ w0.heap.size j cs e (0, 0) (heap_alloc_new w0 _)]
    simpa using hu
  · intro v' w' h1 h2 _
    refine h v' w' h1 ((World.grownBy_alloc w0 _ _).trans h2) (((Below.refl _ _).alloc hb _).grown h2 (by simp; omega) fun k hk => ?_)
    exact (hown.lt k hk).1
theorem wp_push {t e : TypeId} {size bytes : Nat} (E : ElT t e size bytes) {s x : Operand} {w w0 : World} {base : Nat} {v : Value} {n m : Nat} {xs : List Value} (hown : w0.ownsRow base e size v n xs)
    (hb : base ≤ w0.heap.size) (hn : n + m ≤ 68719476736) (cs : Array Value) (hcs : cs.size = m * size) (hone : cs.toList.all (fun u => u.oneCell') = true)
    (hg : o.guard = none) (hop : o.op = .call { callee := .builtin .append, args := #[s, x], argTypes := #[t, t] })
    (hs : a.eval s = v) (hx : a.eval x = .slice (some ⟨w0.heap.size, 0, none⟩) m m) (hw : w = w0.alloc (.cells cs e))
    (h : ∀ v' w', w'.ownsRow base e size v' (n + m) (xs ++ cs.toList) → w0.grownBy w' v.ownBlock → Below base w0 w' → wpList Try.prog ops Q rest (a.put o.dst v') w') : wpList Try.prog ops Q (o :: rest) a w :=
  wpList_plain hg fun K hK => op_push E hown hb hn cs hcs hone hop hs hx hw fun v' w' h1 h2 h3 => hK _ _ (h v' w' h1 h2 h3)
/-- The same in a region that draws its order. -/
theorem step_push {t e : TypeId} {size bytes : Nat} (E : ElT t e size bytes) {s x : Operand} {w w0 : World} {base : Nat} {v : Value} {n m : Nat} {xs : List Value} {K : Act → World → Prop} {E' : Prop} (hown : w0.ownsRow base e size v n xs)
    (hb : base ≤ w0.heap.size) (hn : n + m ≤ 68719476736) (cs : Array Value) (hcs : cs.size = m * size) (hone : cs.toList.all (fun u => u.oneCell') = true)
    (hg : o.guard = none) (hop : o.op = .call { callee := .builtin .append, args := #[s, x], argTypes := #[t, t] })
    (hs : a.eval s = v) (hx : a.eval x = .slice (some ⟨w0.heap.size, 0, none⟩) m m) (hw : w = w0.alloc (.cells cs e))
    (h : ∀ v' w', w'.ownsRow base e size v' (n + m) (xs ++ cs.toList) → w0.grownBy w' v.ownBlock → Below base w0 w' → K (a.put o.dst v') w') :
    if Region.wanted o (yielded ops a.tmps) = true then Oper.wp Try.prog o a w K Q else E' := by
  rw [if_pos (by simp [Region.wanted, hg])]
  exact op_push E hown hb hn cs hcs hone hop hs hx hw h
theorem run_append_nil0 {t e : TypeId} {size bytes : Nat} (E : ElT t e size bytes) (w : World) (ty : TypeId) {base : Nat} {v : Value} {n : Nat} {xs : List Value} (hown : w.ownsRow base e size v n xs) (c : Nat) :
    (Builtin.append_ #[t, t] ty #[v, .slice none 0 c]).run Try.prog w = .ok v w := by
  obtain ⟨i, z, hi, hz, hsz, hby, hzs⟩ := E.inf
  rcases hown.2 with ⟨rfl, rfl⟩ | ⟨g, cap, cur, rfl, _, _, hnc, _⟩
  · simp [Builtin.append_, run_underlying E.und, sizeOf, typeInfo, hi, Builtin.lenOf, Builtin.firstCells]
  · simp [Builtin.append_, run_underlying E.und, sizeOf, typeInfo, hi, Builtin.lenOf, Builtin.firstCells, hnc, storeCells]
/-- append of all elements of a slice that can be read. -/
theorem op_appendS {t e : TypeId} {size bytes : Nat} (E : ElT t e size bytes) {s x : Operand} {w : World} {base : Nat} {v : Value} {n m c : Nat} {A : Option Addr} {xs news : List Value} {K : Act → World → Prop} (hown : w.ownsRow base e size v n xs)
    (hb : base ≤ w.heap.size) (hr : Rd w size A m c news) (hn : n + m ≤ 68719476736) (hone : ∀ u ∈ news, u.oneCell' = true)
    (hop : o.op = .call { callee := .builtin .append, args := #[s, x], argTypes := #[t, t] })
    (hs : a.eval s = v) (hx : a.eval x = .slice A m c)
    (h : ∀ v' w', w'.ownsRow base e size v' (n + m) (xs ++ news) → w.grownBy w' v.ownBlock → Below base w w' → K (a.put o.dst v') w') : o.wp Try.prog a w K Q := by
  obtain ⟨i, z, hi, hz, hsz, hby, hzs⟩ := E.inf
  have hbel : ∀ w', w.grownBy w' v.ownBlock → Below base w w' := fun w' h2 => (Below.refl _ _).grown h2 hb fun k hk => (hown.lt k hk).1
  by_cases hm : 0 < m
  · obtain ⟨ad, rfl, -, hcell⟩ := hr.2.2.2 hm
    exact wp_append_own _ s x t hop base e i z size bytes E.und hi hz hsz hby hzs E.pos v n xs hs hown ad m c news hx hr.1 hcell hone (by unfold maxLen; omega) (bytes_ok hn E.few) hb
      fun v' w' h1 h2 _ => h v' w' h1 h2 (hbel w' h2)
  · obtain rfl : m = 0 := by omega
    have hne : news = [] := List.eq_nil_of_length_eq_zero (by have := hr.1; omega)
    subst hne
    cases A with
    | some ad =>
      exact wp_append_own _ s x t hop base e i z size bytes E.und hi hz hsz hby hzs E.pos v n xs hs hown ad 0 c [] hx (by simp) (by simp) hone (by unfold maxLen; omega) (bytes_ok hn E.few) hb
        fun v' w' h1 h2 _ => h v' w' h1 h2 (hbel w' h2)
    | none =>
      unfold Oper.wp execOp
      simp only [hop, resolve, invoke, builtin, Sem.run_bind, Sem.run_pure, Result.andThen_ok, List.map_toArray, List.map_cons, List.map_nil, hs, hx, run_append_nil0 E w o.type hown c]
      exact (h v w (by simpa using hown) (World.grownBy.refl _ _) (Below.refl _ _))
theorem wp_appendS {t e : TypeId} {size bytes : Nat} (E : ElT t e size bytes) {s x : Operand} {w : World} {base : Nat} {v : Value} {n m c : Nat} {A : Option Addr} {xs news : List Value} (hown : w.ownsRow base e size v n xs)
    (hb : base ≤ w.heap.size) (hr : Rd w size A m c news) (hn : n + m ≤ 68719476736) (hone : ∀ u ∈ news, u.oneCell' = true)
    (hg : o.guard = none) (hop : o.op = .call { callee := .builtin .append, args := #[s, x], argTypes := #[t, t] })
    (hs : a.eval s = v) (hx : a.eval x = .slice A m c)
    (h : ∀ v' w', w'.ownsRow base e size v' (n + m) (xs ++ news) → w.grownBy w' v.ownBlock → Below base w w' → wpList Try.prog ops Q rest (a.put o.dst v') w') : wpList Try.prog ops Q (o :: rest) a w :=
  wpList_plain hg fun K hK => op_appendS E hown hb hr hn hone hop hs hx fun v' w' h1 h2 h3 => hK _ _ (h v' w' h1 h2 h3)
theorem step_appendS {t e : TypeId} {size bytes : Nat} (E : ElT t e size bytes) {s x : Operand} {w : World} {base : Nat} {v : Value} {n m c : Nat} {A : Option Addr} {xs news : List Value} {K : Act → World → Prop} {E' : Prop} (hown : w.ownsRow base e size v n xs)
    (hb : base ≤ w.heap.size) (hr : Rd w size A m c news) (hn : n + m ≤ 68719476736) (hone : ∀ u ∈ news, u.oneCell' = true)
    (hg : o.guard = none) (hop : o.op = .call { callee := .builtin .append, args := #[s, x], argTypes := #[t, t] })
    (hs : a.eval s = v) (hx : a.eval x = .slice A m c)
    (h : ∀ v' w', w'.ownsRow base e size v' (n + m) (xs ++ news) → w.grownBy w' v.ownBlock → Below base w w' → K (a.put o.dst v') w') :
    if Region.wanted o (yielded ops a.tmps) = true then Oper.wp Try.prog o a w K Q else E' := by
  rw [if_pos (by simp [Region.wanted, hg])]
  exact op_appendS E hown hb hr hn hone hop hs hx h
end
theorem ints_one (l : List Int) : ∀ u ∈ ints l, u.oneCell' = true := by
  intro u hu
  unfold ints at hu
  obtain ⟨z, _, rfl⟩ := List.mem_map.1 hu
  rfl

theorem own_open {w : World} {base : Nat} {e : TypeId} {size n : Nat} {v : Value} {xs : List Value} (h : w.ownsRow base e size v n xs) : ∃ A c, v = .slice A n c ∧ n ≤ c ∧ c ≤ maxLen := by
  rcases h.2 with ⟨rfl, rfl⟩ | ⟨g, cap, cur, rfl, -, -, h1, h2, -⟩
  · exact ⟨none, 0, rfl, Nat.le_refl _, Nat.zero_le _⟩
  · exact ⟨_, _, rfl, h1, h2⟩
theorem own_addr {w : World} {base : Nat} {e : TypeId} {size n c : Nat} {A : Option Addr} {xs : List Value} (h : w.ownsRow base e size (.slice A n c) n xs) (hn : 0 < n) :
    ∃ g, A = some ⟨g, 0, none⟩ ∧ base ≤ g ∧ g < w.heap.size := by
  rcases h.2 with ⟨_, rfl⟩ | ⟨g, cap, cur, he, hb, hg, -⟩
  · omega
  · injection he with he1 he2
    exact ⟨g, he1, hb, (Array.getElem?_eq_some_iff.1 hg).1⟩
theorem own_empty (e : TypeId) (size : Nat) (w : World) : (w.alloc (.cells #[] e)).ownsRow w.heap.size e size (.slice (some ⟨w.heap.size, 0, none⟩) 0 0) 0 [] := by
  have := World.ownsRow_lit (base := w.heap.size) (e := e) (size := size) w #[] 0 (Nat.le_refl _) (Nat.zero_le _) (by simp)
  exact this
/-- A call hands back a list of integers in memory of its own, and a code. -/
def ResI (l : List Int) (code : Int) (w : World) (e : Ending) (w' : World) : Prop :=
  ∃ v, e = .returned (.tuple #[v, iv code]) ∧ OwnI w' w.heap.size v l ∧ Below w.heap.size w w'
/-- A call hands back a list of integers in memory of its own. -/
def RetI (l : List Int) (w : World) (e : Ending) (w' : World) : Prop :=
  ∃ v, e = .returned v ∧ OwnI w' w.heap.size v l ∧ Below w.heap.size w w'
/-- What is owned can be read. -/
theorem own_rd {w : World} {base : Nat} {e : TypeId} {size n c : Nat} {A : Option Addr} {xs : List Value} (h : w.ownsRow base e size (.slice A n c) n xs) : Rd w size A n c xs := by
  obtain ⟨A', c', he, h1, h2⟩ := own_open h
  injection he with he1 he2 he3
  subst he1; subst he3
  refine ⟨h.1, h1, h2, fun hn => ?_⟩
  obtain ⟨g, rfl, -, hg⟩ := own_addr h hn
  exact ⟨_, rfl, hg, h.cells (g := g) rfl⟩

/-- n numbers from k on. -/
def upfrom (k : Int) (n : Nat) : List Int := (List.range n).map fun (i : Nat) => k + (i : Int)
theorem upfrom_len (k : Int) (n : Nat) : (upfrom k n).length = n := by simp [upfrom]
theorem upfrom_get (k : Int) (n j : Nat) (h : j < n) : gi (upfrom k n) j = k + j := by simp [gi, upfrom, h]
theorem mark_step (l : List Int) (K : Int) (n k : Nat) (h : l.length = n) (hk : k < n) :
    (ints (upfrom K k ++ l.drop k)).set k (iv (K + k)) = ints (upfrom K (k + 1) ++ l.drop (k + 1)) := by
  unfold ints
  rw [List.map_append, List.set_append_right _ _ (by simp [upfrom])]
  simp only [List.length_map, upfrom_len, Nat.sub_self, List.map_drop]
  rw [List.drop_eq_getElem_cons (by simp; omega)]
  simp [upfrom, List.range_succ]

/-- The slice value v reads in w as a list of integers. -/
def RdI (w : World) (v : Value) (l : List Int) : Prop := ∃ A n c, v = .slice A n c ∧ Rd w 1 A n c (ints l)
theorem OwnI.rd {w : World} {base : Nat} {v : Value} {l : List Int} (h : OwnI w base v l) : RdI w v l := by
  unfold OwnI at h
  obtain ⟨A, c, rfl, -, -⟩ := own_open h
  exact ⟨_, _, _, rfl, own_rd h⟩
theorem RdI.below {w w' : World} {v : Value} {l : List Int} (h : RdI w v l) (hb : Below w.heap.size w w') : RdI w' v l := by
  obtain ⟨A, n, c, rfl, h⟩ := h
  exact ⟨_, _, _, rfl, h.below hb⟩
theorem ownBlock_lt_of {base n : Nat} {e size} {v : Value} {xs : List Value} {w w' : World} (h : w.ownsRow base e size v n xs) (hb : Below w.heap.size w w') : w'.ownsRow base e size v n xs := by
  refine h.kept (row := none) ⟨hb.os, hb.tape, hb.output, hb.size, fun k hk _ => hb.block k hk⟩ (by cases hv : v.ownBlock <;> simp)

/-- Only blocks from a on and below b may have turned (and new ones come). -/
structure Outside (a b : Nat) (w w' : World) : Prop where
  os : w'.os = w.os
  tape : w'.tape = w.tape
  output : w'.output = w.output
  size : w.heap.size ≤ w'.heap.size
  block : ∀ k, k < w.heap.size → (k < a ∨ b ≤ k) → w'.heap[k]? = w.heap[k]?
theorem Outside.below {a b B : Nat} {w w' : World} (h : Outside a b w w') (hB : B ≤ a) (hs : B ≤ w.heap.size) : Below B w w' :=
  ⟨h.os, h.tape, h.output, h.size, fun k hk => h.block k (by omega) (.inl (by omega))⟩
theorem Outside.trans {a b : Nat} {w w1 w2 : World} (h : Outside a b w w1) (h' : Outside a b w1 w2) : Outside a b w w2 :=
  ⟨h'.os.trans h.os, h'.tape.trans h.tape, h'.output.trans h.output, Nat.le_trans h.size h'.size, fun k hk hab => (h'.block k (Nat.lt_of_lt_of_le hk h.size) hab).trans (h.block k hk hab)⟩
theorem Outside.of_below {a b : Nat} {w w' : World} (h : Below w.heap.size w w') : Outside a b w w' := ⟨h.os, h.tape, h.output, h.size, fun k hk _ => h.block k hk⟩
theorem below_through {B : Nat} {w W w1 : World} (h1 : Below B w W) (h2 : Below W.heap.size W w1) (hB : B ≤ W.heap.size) : Below B w w1 := h1.trans (h2.mono hB)
theorem Outside.cell {a b : Nat} {w w' : World} (h : Outside a b w w') {p : Addr} (hp : p.block < a) (hs : p.block < w.heap.size) : w'.cell? p = w.cell? p := World.cell?_of_block (w := w) (h.block p.block hs (.inl hp))
theorem Outside.wide {a b c d : Nat} {w w' : World} (h : Outside a b w w') (h1 : c ≤ a) (h2 : b ≤ d) : Outside c d w w' := ⟨h.os, h.tape, h.output, h.size, fun k hk hab => h.block k hk (by omega)⟩
theorem Outside.of_grown {a b : Nat} {w w' : World} {u : Value} (hg : w.grownBy w' u.ownBlock) (hu : ∀ k, u.ownBlock = some k → a ≤ k ∧ k < b) : Outside a b w w' :=
  ⟨hg.os, hg.tape, hg.output, hg.size, fun k hk hab => hg.block k hk fun e => by have := hu k e.symm; omega⟩

/-- The slice value v, n elements of type e (k cells each), holds the numbers zs in a block of its own from lo on and below hi. -/
structure HelZ (e : TypeId) (k : Nat) (w : World) (lo hi : Nat) (v : Value) (n : Nat) (zs : List Int) : Prop where
  row : w.ownsRow lo e k v n (ints zs)
  top : hi ≤ w.heap.size
  lt : ∀ g, v.ownBlock = some g → g < hi
section
variable {e : TypeId} {k : Nat} {w w' : World} {lo hi : Nat} {v : Value} {n : Nat} {zs : List Int}
theorem HelZ.of (h : w.ownsRow lo e k v n (ints zs)) : HelZ e k w lo w.heap.size v n zs := ⟨h, Nat.le_refl _, fun g hg => (h.lt g hg).2⟩
theorem HelZ.ge (h : HelZ e k w lo hi v n zs) : ∀ g, v.ownBlock = some g → lo ≤ g ∧ g < hi := fun g hg => ⟨(h.row.lt g hg).1, h.lt g hg⟩
theorem HelZ.outside {a b : Nat} (h : HelZ e k w lo hi v n zs) (ho : Outside a b w w') (hd : b ≤ lo ∨ hi ≤ a) : HelZ e k w' lo hi v n zs := by
  refine ⟨?_, Nat.le_trans h.top ho.size, h.lt⟩
  have hg : w.grownBy w' (if v.ownBlock = none then some w.heap.size else none) ∨ True := .inr trivial
  obtain ⟨h1, h2⟩ := h.row
  refine ⟨h1, ?_⟩
  rcases h2 with h2 | ⟨g, cap, cur, rfl, hb, hgg, rest⟩
  · exact .inl h2
  · refine .inr ⟨g, cap, cur, rfl, hb, ?_, rest⟩
    have := h.lt g rfl
    rw [ho.block g (Nat.lt_of_lt_of_le this h.top) (by omega)]
    exact hgg
theorem HelZ.below {B : Nat} (h : HelZ e k w lo hi v n zs) (hb : Below B w w') (hB : hi ≤ B) : HelZ e k w' lo hi v n zs := by
  obtain ⟨h1, h2⟩ := h.row
  refine ⟨⟨h1, ?_⟩, Nat.le_trans h.top hb.size, h.lt⟩
  rcases h2 with h2 | ⟨g, cap, cur, rfl, hb', hgg, rest⟩
  · exact .inl h2
  · refine .inr ⟨g, cap, cur, rfl, hb', ?_, rest⟩
    have := h.lt g rfl
    rw [hb.block g (by omega)]
    exact hgg
end
abbrev HelI (w : World) (lo hi : Nat) (v : Value) (l : List Int) : Prop := HelZ 2 1 w lo hi v l.length l
theorem OwnI.hel {w : World} {base : Nat} {v : Value} {l : List Int} (h : OwnI w base v l) : HelI w base w.heap.size v l := .of h
theorem OwnI.mono {w : World} {base b : Nat} {v : Value} {l : List Int} (h : OwnI w base v l) (hb : b ≤ base) : OwnI w b v l := by
  obtain ⟨h1, h2⟩ := h
  refine ⟨h1, ?_⟩
  rcases h2 with h2 | ⟨g, cap, cur, hv, hg, r⟩
  · exact .inl h2
  · exact .inr ⟨g, cap, cur, hv, Nat.le_trans hb hg, r⟩
theorem HelZ.rdI {w : World} {lo hi : Nat} {v : Value} {l : List Int} {n : Nat} (h : HelZ 2 1 w lo hi v n l) : RdI w v l := by
  obtain ⟨A, c, rfl, -, -⟩ := own_open h.row
  exact ⟨_, _, _, rfl, own_rd h.row⟩
theorem eq_I {v u : Value} {l : List Int} {w : World} (h : RdI w v l) (h' : RdI w u l) :
    Calls Try.prog 47 #[v, u] w fun e w' => e = .returned (.bool true) ∧ Below w.heap.size w w' := by
  obtain ⟨A, n, c, rfl, h⟩ := h
  obtain ⟨A', n', c', rfl, h'⟩ := h'
  refine (eqInt64S_any _ _ _ _ _ _ _ _ _ h h').mono ?_
  rintro e w' ⟨rfl, q, rfl⟩
  exact ⟨by simp, below_drewN (Below.refl _ _) q⟩

set_option maxHeartbeats 400000 in
/-- The given helper that numbers the elements of a list. -/
theorem markInt64S_any (v : Value) (l : List Int) (K : Int) (base : Nat) (w : World) (h : OwnI w base v l) (h0 : 0 ≤ K) (hK : K + l.length ≤ 4611686018427387904) :
    Calls Try.prog 50 #[v, iv K] w fun e w' => e = .returned (iv (K + l.length)) ∧ OwnI w' base v (upfrom K l.length) ∧ w.grownBy w' v.ownBlock := by
  unfold OwnI at h
  obtain ⟨A, c, rfl, hnc, hcm⟩ := own_open h
  obtain ⟨n, Hn⟩ : ∃ n, Hid (l.length = n) := ⟨_, rfl⟩
  rw [Hn.out] at h hK hnc ⊢
  unfold maxLen at hcm
  go_enter Try.func50, Try.ntmps50
  go_wp2
  go_loopw [1, 5] (fun q i wr => ∃ k : Nat, i = iv k ∧ q = iv (K + k) ∧ k ≤ n ∧ w.grownBy wr (Value.slice A n c).ownBlock ∧
      wr.ownsRow base 2 1 (.slice A n c) n (ints (upfrom K k ++ l.drop k))) (fun _ i _ => n - (intOf i).toNat)
  case atStart => exact ⟨0, rfl, by simp, Nat.zero_le _, World.grownBy.refl _ _, by simpa [upfrom] using h⟩
  case round =>
    obtain ⟨k, rfl, rfl, hk, hgw, how⟩ := hrel
    clear h
    by_cases hlt : k < n
    · obtain ⟨g, rfl, hbg, hgl⟩ := own_addr how (by omega)
      obtain ⟨u, -, hc2, hf2⟩ := own_cell how (j := k) (by omega)
      obtain ⟨how2, hg2⟩ := how.stored k (iv (K + k))
      rw [mark_step l K n k Hn.out hlt] at how2
      have hG := hgw.trans hg2
      go_wp2
      go_roundw
      case rel => exact ⟨k + 1, by go_num, by go_num, by omega, hG, how2⟩
      case measure => simp [intOf]; omega
    · go_wp2
      go_ret
      obtain rfl : k = n := by omega
      refine ⟨rfl, ?_, hgw⟩
      unfold OwnI
      have hl : l.length = k := Hn.out
      rw [List.drop_of_length_le (by omega), List.append_nil] at how
      rw [upfrom_len]
      exact how

set_option maxHeartbeats 400000 in
/-- The given helper that looks whether the elements are numbered: where they are. -/
theorem heldInt64S_any (v : Value) (n : Nat) (K : Int) (base : Nat) (w : World) (h : OwnI w base v (upfrom K n)) (h0 : 0 ≤ K) (hK : K + n ≤ 4611686018427387904) :
    Calls Try.prog 51 #[v, iv K] w fun e w' => e = .returned (iv (K + n)) ∧ w = w' := by
  unfold OwnI at h
  rw [upfrom_len] at h
  obtain ⟨A, c, rfl, hnc, hcm⟩ := own_open h
  unfold maxLen at hcm
  have hr := own_rd h
  go_enter Try.func51, Try.ntmps51
  go_wp2
  go_loop [1, 5] (fun q i => ∃ k : Nat, i = iv k ∧ q = iv (K + k) ∧ k ≤ n) (fun _ i => n - (intOf i).toNat)
  case atStart => exact ⟨0, rfl, by simp, Nat.zero_le _⟩
  case round =>
    obtain ⟨k, rfl, rfl, hk⟩ := hrel
    by_cases hlt : k < n
    · obtain ⟨a1, rfl, hab, h1⟩ := hr.ints_at hlt
      rw [upfrom_get _ _ _ hlt] at h1
      go_wp2
      go_round
      case rel => exact ⟨k + 1, by go_num, by go_num, by omega⟩
      case measure => simp [intOf]; omega
    · go_wp2
      go_ret
      obtain rfl : k = n := by omega
      exact ⟨rfl, rfl⟩

theorem mark_I {v : Value} {l : List Int} {K : Int} {lo hi : Nat} {w : World} (h : HelI w lo hi v l) (h0 : 0 ≤ K) (hK : K + l.length ≤ 4611686018427387904) :
    Calls Try.prog 50 #[v, iv K] w fun e w' => e = .returned (iv (K + l.length)) ∧ HelI w' lo hi v (upfrom K l.length) ∧ Outside lo hi w w' := by
  refine (markInt64S_any v l K lo w h.row h0 hK).mono ?_
  rintro e w' ⟨rfl, h1, h2⟩
  exact ⟨rfl, ⟨h1, Nat.le_trans h.top h2.size, h.lt⟩, .of_grown h2 h.ge⟩
theorem held_I {v : Value} {n : Nat} {K : Int} {lo hi : Nat} {w : World} (h : HelI w lo hi v (upfrom K n)) (h0 : 0 ≤ K) (hK : K + n ≤ 4611686018427387904) :
    Calls Try.prog 51 #[v, iv K] w fun e w' => e = .returned (iv (K + n)) ∧ Below w.heap.size w w' := by
  refine (heldInt64S_any v n K lo w h.row h0 hK).mono ?_
  rintro e w' ⟨rfl, rfl⟩
  exact ⟨rfl, Below.refl _ _⟩
theorem to_I {v : Value} {l : List Int} {w : World} (h : RdI w v l) (hb : l.length ≤ 17592186044416) :
    Calls Try.prog 94 #[v] w fun e w' => ∃ v, e = .returned v ∧ HelI w' w.heap.size w'.heap.size v l ∧ Below w.heap.size w w' := by
  obtain ⟨A, n, c, rfl, h⟩ := h
  refine (toInt64S_any A n c l w h (by have := h.1; rw [ints_len] at this; omega)).mono ?_
  rintro e w' ⟨v, rfl, h1, h2⟩
  exact ⟨v, rfl, h1.hel, h2⟩
end Go.Proofs.Ythopcmglcnlcfaa.Old
