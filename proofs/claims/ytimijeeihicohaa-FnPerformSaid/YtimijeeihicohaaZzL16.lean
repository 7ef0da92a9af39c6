/- Parts of the proof, together: Nodes, as the program plays them. Nodes, as the program plays them: what a node gets. Nodes, as the program plays them: outputs. A function that hands back a new row of numbers: its contract is exact, however it came about. Nodes, as the program plays them: next states. Nodes, as the program plays them: starts, steps. Nodes, as the program plays them: inputs, steps. Lists of lists in rows of one's No conditions. -/
import Derived.Test.YtimijeeihicohaaZzL15
import Derived.Test.YtimijeeihicohaaZzL11
import Derived.Test.YtimijeeihicohaaZzL5
namespace Go.Proofs.Ytimijeeihicohaa
open Go.RowKit
set_option linter.unusedVariables false
set_option linter.unusedSimpArgs false
set_option maxRecDepth 100000
attribute [local simp] List.getElem?_cons_zero
attribute [local irreducible] awCond awCall awLoop awDraw ow retQ retC resQ Keeps
theorem and1S (n : Int) : intV .and .i64 n 1 = some (.int .i64 (n % 2)) := by
  have h1 : (BitVec.ofInt 64 (1 : Int)).toNat = 2 ^ 1 - 1 := by decide
  have h2 : ((BitVec.ofInt 64 n).toNat : Int) = n % 18446744073709551616 := by
    rw [BitVec.toNat_ofInt]
    have := Int.emod_nonneg n (show (18446744073709551616 : Int) ≠ 0 by decide)
    show ((n % 18446744073709551616).toNat : Int) = _
    omega
  have key : IntKind.i64.wrap ((BitVec.ofInt 64 n &&& BitVec.ofInt 64 1).toNat : Int) = n % 2 := by
    rw [BitVec.toNat_and, h1, Nat.and_two_pow_sub_one_eq_mod, IntKind.wrap_i64]
    have h3 : (((BitVec.ofInt 64 n).toNat % 2 ^ 1 : Nat) : Int) = (n % 18446744073709551616) % 2 := by
      rw [Int.natCast_emod, h2]
      rfl
    rw [h3]
    omega
  show some (Value.int .i64 (IntKind.i64.wrap ((BitVec.ofInt 64 n &&& BitVec.ofInt 64 1).toNat : Int))) = _
  rw [key]
theorem xorS {a : Int} (h0 : 0 ≤ a) (h1 : a < 4294967296) : intV .xor .i64 a 2734686208 = some (.int .i64 ((a.toNat ^^^ 2734686208 : Nat) : Int)) := by
  have e1 : (BitVec.ofInt 64 (2734686208 : Int)).toNat = 2734686208 := by decide
  have e2 : (BitVec.ofInt 64 a).toNat = a.toNat := by
    rw [BitVec.toNat_ofInt]
    show (a % 18446744073709551616).toNat = _
    rw [Int.emod_eq_of_lt h0 (by omega)]
  have hx : a.toNat ^^^ 2734686208 < 2 ^ 32 := Nat.xor_lt_two_pow (by omega) (by omega)
  have key : IntKind.i64.wrap ((BitVec.ofInt 64 a ^^^ BitVec.ofInt 64 2734686208).toNat : Int) = ((a.toNat ^^^ 2734686208 : Nat) : Int) := by
    rw [BitVec.toNat_xor, e1, e2]
    exact wrap_in (by omega) (by omega)
  show some (Value.int .i64 (IntKind.i64.wrap ((BitVec.ofInt 64 a ^^^ BitVec.ofInt 64 2734686208).toNat : Int))) = _
  rw [key]
theorem shrS {a c : Int} (h0 : 0 ≤ c) (h1 : c ≤ 63) : intV .shr .i64 a c = some (.int .i64 (a / 2 ^ c.toNat)) := by
  have e : intV .shr .i64 a c = some (.int .i64 (a.fdiv (2 ^ (min c.toNat IntKind.i64.bits)))) := by
    show (if c < 0 then none else _) = _
    simp [show ¬ (c < 0) by omega]
  rw [e]
  have : min c.toNat IntKind.i64.bits = c.toNat := by
    have : IntKind.i64.bits = 64 := rfl
    rw [this]; omega
  rw [this, Int.fdiv_eq_ediv_of_nonneg _ (Int.pow_nonneg (by omega))]
theorem sl_take {M : Mem} {u : Value} {l : List Int} {lo hi : Nat} (h : SlV intP lo hi M u l) : ∃ A n c, u = .slice A n c ∧ l.length = n ∧ n ≤ 9223372036854775807 ∧ Sl intR M A n l ∧ (A = none → c = 0) := by
  obtain ⟨A, n, c, e, h1, h2, h3⟩ := h
  exact ⟨A, n, c, e, h3.1, h1, h3.sl, h2⟩
theorem int_one (l : List Int) : (cellsL intR l).all (fun u => u.oneCell') = true := by
  induction l with
  | nil => rfl
  | cons a l ih => rw [cellsL_cons, List.all_append, ih]; rfl
theorem unsigned_i {M : Mem} (x : Int) : Det Try.prog M.length 142 [iv x] M (iv (x % 4294967296)) M := by
  have e : IntKind.i64.wrap (IntKind.u32.wrap x) = x % 4294967296 := by
    rw [IntKind.wrap_u32, IntKind.wrap_i64]; omega
  first | (refine det_fn Try.func142 rfl Try.ntmps142 Try.results142 rfl rfl rfl (by simp) ?_) | (refine det_fnC Try.func142 rfl Try.ntmps142 Try.results142 rfl rfl (by simp) ?_)
  simp [e, Keeps.refl]
theorem isOdd_i {M : Mem} (x : Int) : Det Try.prog M.length 143 [iv x] M (.bool (decide (x % 2 = 1))) M := by
  first | (refine det_fn Try.func143 rfl Try.ntmps143 Try.results143 rfl rfl rfl (by simp) ?_) | (refine det_fnC Try.func143 rfl Try.ntmps143 Try.results143 rfl rfl (by simp) ?_)
  simp [and1S, Keeps.refl]
theorem noise_i {M : Mem} (x : Int) : Det Try.prog M.length 140 [iv x] M (iv (noiseV x)) M := by
  have hx : 0 ≤ x % 4294967296 ∧ x % 4294967296 < 4294967296 := by omega
  have hq : IntKind.i64.wrap ((x % 4294967296).tdiv 2) = x % 4294967296 / 2 := by
    rw [Int.tdiv_eq_ediv_of_nonneg hx.1]; exact wrap_in (by omega) (by omega)
  first | (refine det_fn Try.func140 rfl Try.ntmps140 Try.results140 rfl rfl rfl (by simp) ?_) | (refine det_fnC Try.func140 rfl Try.ntmps140 Try.results140 rfl rfl (by simp) ?_)
  simp
  refine awCall_det' (unsigned_i x) (by omega) ?_
  simp [hq]
  refine awCall_det' (isOdd_i x) (by omega) ?_
  by_cases ho : x % 2 = 1
  · simp [ho, xorS (a := x % 4294967296 / 2) (by omega) (by omega)]
    refine awCall_det' (Wrap_s _) (by omega) ?_
    simp [noiseV, ho, Keeps.refl]
  · simp [ho]
    refine awCall_det' (Wrap_s _) (by omega) ?_
    simp [noiseV, ho, Keeps.refl]
theorem Same.trans' {B : Nat} {M1 M2 M3 : Mem} (h : Same B M1 M2) (h' : Same B M2 M3) : Same B M1 M3 := ⟨Nat.le_trans h.1 h'.1, fun i s hi hs => h'.2 i s hi (h.2 i s hi hs)⟩
theorem Same.appS (M L : Mem) : Same M.length M (M ++ L) := ⟨by simp, fun i s _ hs => (keeps_app _).get hs⟩
theorem Same.appB {B : Nat} (M L : Mem) : Same B M (M ++ L) := ⟨by simp, fun i s _ hs => (keeps_app _).get hs⟩
theorem appendK_M {P : Program} {b : Nat} {S S' : St} {K : Value → Mem → Prop} {t tx : TypeId} {s x : Value} (e : S.M = S'.M) (h : appendK P b S K t tx s x) : appendK P b S' K t tx s x := by
  unfold appendK at h ⊢
  rw [← e]
  exact h
theorem append_det {P : Program} {t tx e : TypeId} {B b by_ : Nat} {S : St} {v x : Value} {l : List Int} {a : Int} (h : Acc intR e B S.M v l) (hb : b ≤ B) (hB : B ≤ S.M.length) (hq : qSlice P t = some (e, 1, by_))
    (hz : (P.info? e).any (fun i => i.zero.any fun z => z.cells.size == 1) = true) (hs : srcOf P S.M 1 tx x = some (1, intR.row a)) (hn : (l.length + 1) * by_ ≤ 140737488355328) (hm : l.length + 1 ≤ maxLen) :
    ∃ v' M', Acc intR e B M' v' (l ++ [a]) ∧ Same B S.M M' ∧ ∀ K : Value → Mem → Prop, K v' M' → appendK P b S K t tx v x := by
  obtain ⟨v', M', ⟨h1, h2⟩, h3⟩ := pt_append (P := P) (b := b) (S := S) (t := t) (tx := tx) (s := v) (x := x) (fun v' M' => Acc intR e B M' v' (l ++ [a]) ∧ Same B S.M M') (h.append hb hB (by omega) hq hz hs rfl hn hm fun v' M' a b => ⟨a, b⟩)
  exact ⟨v', M', h1, h2, h3⟩
theorem clone_det {P : Program} {t e : TypeId} {B b by_ : Nat} {S : St} {A : Option Addr} {n c : Nat} {l : List Int} (h : Sl intR S.M A n l) (hc : A = none → c = 0) (hA : Acc intR e B S.M (.slice (some ⟨B, 0, none⟩) 0 0) []) (hb : b ≤ B) (hB : B ≤ S.M.length) (hq : qSlice P t = some (e, 1, by_)) (ht : ∃ e', P.underlying t = some (.slice e'))
    (hz : (P.info? e).any (fun i => i.zero.any fun z => z.cells.size == 1) = true) (hn : n * by_ ≤ 140737488355328) (hm : n ≤ maxLen) :
    ∃ v' M', Acc intR e B M' v' l ∧ Same B S.M M' ∧ ∀ K : Value → Mem → Prop, K v' M' → appendK P b S K t t (.slice (some ⟨B, 0, none⟩) 0 0) (.slice A n c) := by
  have hl := h.1
  rcases A with _ | ad
  · have h0 : l = [] := by
      apply List.eq_nil_of_length_eq_zero
      rcases Nat.eq_zero_or_pos n with e | e
      · omega
      · obtain ⟨_, _, e', _⟩ := h.2 e
        cases e'
    subst h0
    have hn0 : n = 0 := by simpa using hl.symm
    subst hn0
    have hc0 := hc rfl
    subst hc0
    obtain ⟨e', ht⟩ := ht
    obtain ⟨v', M', ⟨h1, h2⟩, h3⟩ := pt_append (P := P) (b := b) (S := S) (t := t) (tx := t) (s := .slice (some ⟨B, 0, none⟩) 0 0) (x := .slice none 0 0) (fun v' M' => Acc intR e B M' v' [] ∧ Same B S.M M')
      (hA.extend (ls := []) hb hB hq hz (by simp [srcOf, ht, cellsL]) rfl (by simp) (by unfold maxLen; simp) fun v' M' a b => ⟨a, b⟩)
    exact ⟨v', M', h1, h2, h3⟩
  · obtain ⟨v', M', ⟨h1, h2⟩, h3⟩ := pt_append (P := P) (b := b) (S := S) (t := t) (tx := t) (s := .slice (some ⟨B, 0, none⟩) 0 0) (x := .slice (some ad) n c) (fun v' M' => Acc intR e B M' v' l ∧ Same B S.M M')
      (cloneX h (by omega) hA hb hB hq ht hz (int_one l) hn hm fun v' M' a b => ⟨a, b⟩)
    exact ⟨v', M', h1, h2, h3⟩
end Go.Proofs.Ytimijeeihicohaa

namespace Go.Proofs.Ytimijeeihicohaa
open Go.RowKit
set_option linter.unusedVariables false
set_option linter.unusedSimpArgs false
set_option maxRecDepth 100000
attribute [local simp] List.getElem?_cons_zero
attribute [local irreducible] awCond awCall awLoop awDraw ow retQ retC resQ Keeps
theorem sl_cells {M : Mem} {A : Option Addr} {n : Nat} {l : List Int} (h : Sl intR M A n l) (hn : 0 < n) : ∃ id off, A = some ⟨id, off, none⟩ ∧ rowEsz M id = some 1 ∧ ∀ j, j < n → cellAt M id (off + j) = some (iv (el l j)) := by
  obtain ⟨id, off, e, he, hc⟩ := h.2 hn
  refine ⟨id, off, e, he, fun j hj => ?_⟩
  obtain ⟨id', off', e', -, hc'⟩ := h.at_ hj
  rw [e] at e'
  injection e' with e'
  injection e' with e1 e2
  subst e1; subst e2
  have := int_cell hc'
  simpa only [Nat.mul_one] using this
end Go.Proofs.Ytimijeeihicohaa

namespace Go.Proofs.Ytimijeeihicohaa
open Go.RowKit
set_option linter.unusedVariables false
set_option linter.unusedSimpArgs false
set_option maxRecDepth 100000
attribute [local simp] List.getElem?_cons_zero
attribute [local irreducible] awCond awCall awLoop awDraw ow retQ retC resQ Keeps
theorem node_box {M : Mem} {lo hi : Nat} {us : List Value} {x : Node} (h : nodeP.rd lo hi M x us) : ∃ A n c, us = [iv x.k, iv x.a, iv x.b, .slice A n c] ∧ SlV intP lo hi M (.slice A n c) x.from_ := by
  obtain ⟨u, rfl, hu⟩ := h
  obtain ⟨A, n, c, rfl⟩ := hu.isSl
  exact ⟨A, n, c, rfl, hu⟩
/-- What the elements of a list are, one by one. -/
theorem slv_at {M : Mem} {u : Value} {l : List Int} {lo hi : Nat} (h : SlV intP lo hi M u l) {n : Nat} (hn : l.length = n) (h0 : 0 < n) : ∃ id off c, u = .slice (some ⟨id, off, none⟩) n c ∧ rowEsz M id = some 1 ∧ cellAt M id off = some (iv (el l 0)) ∧ (1 < n → cellAt M id (off + 1) = some (iv (el l 1))) ∧ (2 < n → cellAt M id (off + 2) = some (iv (el l 2))) := by
  obtain ⟨A, m, c, rfl, hm, -, hS, -⟩ := sl_take h
  obtain rfl : m = n := by omega
  obtain ⟨id, off, rfl, he, hc⟩ := sl_cells hS h0
  exact ⟨id, off, c, rfl, he, hc 0 h0, fun h => hc 1 h, fun h => hc 2 h⟩
theorem tab_at {p : Patch} (h : tablesB p.tabs = true) {k : Nat} (hk : k < p.tabs.length) : 2 ≤ (el p.tabs k).length ∧ (el p.tabs k).length ≤ 16 := by
  unfold tablesB at h
  rw [Bool.and_eq_true] at h
  have := List.all_eq_true.1 h.1 _ (el_mem hk)
  unfold tableB at this
  simp only [Bool.and_eq_true, Bool.or_eq_true, decide_eq_true_eq] at this
  omega
theorem look_bd {t : List Int} (h1 : 2 ≤ t.length) (h2 : t.length ≤ 16) (x : Int) : 0 ≤ t.length * (x % 4294967296) / 4294967296 ∧ t.length * (x % 4294967296) / 4294967296 < t.length ∧ 0 ≤ t.length * (x % 4294967296) ∧ t.length * (x % 4294967296) ≤ 68719476736 := by
  have h : 0 ≤ x % 4294967296 ∧ x % 4294967296 < 4294967296 := by omega
  generalize x % 4294967296 = y at h
  generalize t.length = n at *
  have hc : n = 2 ∨ n = 3 ∨ n = 4 ∨ n = 5 ∨ n = 6 ∨ n = 7 ∨ n = 8 ∨ n = 9 ∨ n = 10 ∨ n = 11 ∨ n = 12 ∨ n = 13 ∨ n = 14 ∨ n = 15 ∨ n = 16 := by omega
  rcases hc with rfl | rfl | rfl | rfl | rfl | rfl | rfl | rfl | rfl | rfl | rfl | rfl | rfl | rfl | rfl <;> refine ⟨?_, ?_, ?_, ?_⟩ <;> omega
theorem output_i {M : Mem} {lo hi lo1 hi1 lo2 hi2 : Nat} {us : List Value} {x : Node} {tv vi : Value} {i s : List Int} {p : Patch} (h : nodeP.rd lo hi M x us) (ht : SlV tabP lo1 hi1 M tv p.tabs) (hi : SlV intP lo2 hi2 M vi i) (hx : NodeOk p x) (htb : tablesB p.tabs = true)
    (hil : i.length = if x.k = 1 then 1 else x.from_.length) (hk : x.k = 1 ∨ x.k = 2 ∨ x.k = 3 ∨ x.k = 4 ∨ x.k = 5 ∨ x.k = 9 ∨ x.k = 10 ∨ x.k = 11 ∨ x.k = 13 ∨ x.k = 15) :
    ∃ N, Det Try.prog M.length 141 [.agg us.toArray, tv, vi] M (iv (outV x p.tabs i s)) (M ++ N) := by
  obtain ⟨A, n, c, rfl, hu⟩ := node_box h
  refine ⟨[Slot.live ⟨[iv x.k, iv x.a, iv x.b, .slice A n c], true, true, 138, 4⟩], Ctr.det ?_⟩
  first | (refine ctr_fn Try.func141 rfl Try.ntmps141 Try.results141 rfl rfl (by simp) ?_) | (refine ctr_fnC Try.func141 rfl Try.ntmps141 Try.results141 rfl (by simp) ?_)
  simp
  generalize hkk : x.k = kk at *
  by_cases k2 : kk = 2
  · simp [k2, outV, hkk]
  simp [k2]
  by_cases k3 : kk = 3
  · subst k3
    obtain ⟨id, off, d, rfl, he, c0, c1, c2⟩ := slv_at hi (n := 2) (by rw [hil]; rw [if_neg (by omega)]; exact hx.two (by omega)) (by omega)
    replace c0 := cellAt_app c0 [Slot.live ⟨[iv 3, iv x.a, iv x.b, .slice A n c], true, true, 138, 4⟩]
    have c1' := cellAt_app (c1 (by omega)) [Slot.live ⟨[iv 3, iv x.a, iv x.b, .slice A n c], true, true, 138, 4⟩]
    replace he := rowEsz_keeps (keeps_app [Slot.live ⟨[iv 3, iv x.a, iv x.b, .slice A n c], true, true, 138, 4⟩]) he
    simp
    refine awDraw_E 6 [[],[0],[1,0],[],[3],[4,3],[2,1,0,5,4,3],[6,2,1,0,5,4,3],[7,6,2,1,0,5,4,3]] (by kernel_rfl) (by kernel_rfl) ?_
    simp [c0, c1', he]
    refine awCall_det' (Wrap_s _) (by first | omega | (simp <;> omega) | simp) ?_
    simp [outV, hkk, smp_wrap]
  simp [k3]
  by_cases k4 : kk = 4
  · subst k4
    obtain ⟨id, off, d, rfl, he, c0, c1, c2⟩ := slv_at hi (n := 2) (by rw [hil]; rw [if_neg (by omega)]; exact hx.two (by omega)) (by omega)
    replace c0 := cellAt_app c0 [Slot.live ⟨[iv 4, iv x.a, iv x.b, .slice A n c], true, true, 138, 4⟩]
    have c1' := cellAt_app (c1 (by omega)) [Slot.live ⟨[iv 4, iv x.a, iv x.b, .slice A n c], true, true, 138, 4⟩]
    replace he := rowEsz_keeps (keeps_app [Slot.live ⟨[iv 4, iv x.a, iv x.b, .slice A n c], true, true, 138, 4⟩]) he
    simp
    refine awDraw_E 6 [[],[0],[1,0],[],[3],[4,3],[2,1,0,5,4,3],[6,2,1,0,5,4,3],[7,6,2,1,0,5,4,3]] (by kernel_rfl) (by kernel_rfl) ?_
    simp [c0, c1', he]
    refine awCall_det' (Wrap_s _) (by first | omega | (simp <;> omega) | simp) ?_
    simp [outV, hkk, smp_wrap]
  simp [k4]
  by_cases k5 : kk = 5
  · subst k5
    obtain ⟨id, off, d, rfl, he, c0, c1, c2⟩ := slv_at hi (n := 1) (by rw [hil]; first | rw [if_pos (by omega)] | (rw [if_neg (by omega)]; exact hx.one (by omega))) (by omega)
    replace c0 := cellAt_app c0 [Slot.live ⟨[iv 5, iv x.a, iv x.b, .slice A n c], true, true, 138, 4⟩]
    replace he := rowEsz_keeps (keeps_app [Slot.live ⟨[iv 5, iv x.a, iv x.b, .slice A n c], true, true, 138, 4⟩]) he
    simp
    refine awDraw_E 5 [[],[0],[],[2],[3,2],[1,0,4,3,2],[5,1,0,4,3,2],[6,5,1,0,4,3,2]] (by kernel_rfl) (by kernel_rfl) ?_
    simp [c0, he]
    refine awCall_det' (Wrap_s _) (by first | omega | (simp <;> omega) | simp) ?_
    simp [outV, hkk, smp_wrap]
  simp [k5]
  by_cases k9 : kk = 9
  · subst k9
    obtain ⟨id, off, d, rfl, he, c0, c1, c2⟩ := slv_at hi (n := 2) (by rw [hil]; rw [if_neg (by omega)]; exact hx.two (by omega)) (by omega)
    replace c0 := cellAt_app c0 [Slot.live ⟨[iv 9, iv x.a, iv x.b, .slice A n c], true, true, 138, 4⟩]
    have c1' := cellAt_app (c1 (by omega)) [Slot.live ⟨[iv 9, iv x.a, iv x.b, .slice A n c], true, true, 138, 4⟩]
    replace he := rowEsz_keeps (keeps_app [Slot.live ⟨[iv 9, iv x.a, iv x.b, .slice A n c], true, true, 138, 4⟩]) he
    simp
    refine awDraw_E 6 [[],[0],[1,0],[],[3],[4,3],[2,1,0,5,4,3],[6,2,1,0,5,4,3],[7,6,2,1,0,5,4,3]] (by kernel_rfl) (by kernel_rfl) ?_
    simp [c0, c1', he]
    refine awCall_det' (Wrap_s _) (by first | omega | (simp <;> omega) | simp) ?_
    simp [outV, hkk, smp_wrap]
  simp [k9]
  by_cases k10 : kk = 10
  · subst k10
    obtain ⟨id, off, d, rfl, he, c0, c1, c2⟩ := slv_at hi (n := 1) (by rw [hil]; first | rw [if_pos (by omega)] | (rw [if_neg (by omega)]; exact hx.one (by omega))) (by omega)
    replace c0 := cellAt_app c0 [Slot.live ⟨[iv 10, iv x.a, iv x.b, .slice A n c], true, true, 138, 4⟩]
    replace he := rowEsz_keeps (keeps_app [Slot.live ⟨[iv 10, iv x.a, iv x.b, .slice A n c], true, true, 138, 4⟩]) he
    simp
    refine awDraw_E 6 [[],[0],[1,0],[],[3],[4,3],[2,1,0,5,4,3],[6,2,1,0,5,4,3]] (by kernel_rfl) (by kernel_rfl) ?_
    obtain ⟨a1, a2⟩ := hx.shift (by omega)
    have e1 : IntKind.u64.wrap x.a = x.a := IntWalk.u64_in _ ⟨a1, by omega⟩
    simp [c0, he, e1]
    rw [binV_shift rfl, shrS a1 (by omega), ow_some]
    simp [outV, hkk]
  simp [k10]
  by_cases k11 : kk = 11
  · subst k11
    obtain ⟨id, off, d, rfl, he, c0, c1, c2⟩ := slv_at hi (n := 1) (by rw [hil]; first | rw [if_pos (by omega)] | (rw [if_neg (by omega)]; exact hx.one (by omega))) (by omega)
    replace c0 := cellAt_app c0 [Slot.live ⟨[iv 11, iv x.a, iv x.b, .slice A n c], true, true, 138, 4⟩]
    replace he := rowEsz_keeps (keeps_app [Slot.live ⟨[iv 11, iv x.a, iv x.b, .slice A n c], true, true, 138, 4⟩]) he
    simp
    refine awDraw_E 9 [[],[0],[1,0],[],[3],[],[5],[6,5],[4,3,7,6,5],[2,1,0,8,4,3,7,6,5],[9,2,1,0,8,4,3,7,6,5]] (by kernel_rfl) (by kernel_rfl) ?_
    obtain ⟨a1, a2⟩ := hx.clip (by omega)
    have e1 : IntKind.i64.wrap (-x.a) = -x.a := wrap_in (by omega) (by omega)
    simp [c0, he, e1]
    simp [outV, hkk]
    omega
  simp [k11]
  by_cases k13 : kk = 13
  · subst k13
    obtain ⟨a1, a2⟩ := hx.tab (by omega)
    obtain ⟨b1, b2⟩ := tab_at htb (k := x.a.toNat) (by omega)
    obtain ⟨id, off, d, rfl, he, c0, c1, c2⟩ := slv_at hi (n := 1) (by rw [hil]; first | rw [if_pos (by omega)] | (rw [if_neg (by omega)]; exact hx.one (by omega))) (by omega)
    replace c0 := cellAt_app c0 [Slot.live ⟨[iv 13, iv x.a, iv x.b, .slice A n c], true, true, 138, 4⟩]
    replace he := rowEsz_keeps (keeps_app [Slot.live ⟨[iv 13, iv x.a, iv x.b, .slice A n c], true, true, 138, 4⟩]) he
    obtain ⟨B, m, e, rfl, g1, g2, g3⟩ := ht
    have hml := g3.1
    obtain ⟨idt, offt, ust, rfl, het, ⟨ut, rfl, hut⟩, hct⟩ := (g3.app [Slot.live ⟨[iv 13, iv x.a, iv x.b, .slice A n c], true, true, 138, 4⟩]).at_ (i := x.a.toNat) (by omega)
    have ct := (cl_cons.1 hct).1
    simp only [Nat.mul_one] at ct
    have hneg : ¬ x.a < 0 := by omega
    have hlm : x.a < m := by omega
    simp (disch := omega) [het, ct, hneg, hlm]
    refine ⟨a1, ?_⟩
    obtain ⟨Al, nl, cl, rfl, hnl, -, hSl, -⟩ := sl_take hut
    obtain ⟨idl, offl, rfl, hel, hcl⟩ := sl_cells hSl (by omega)
    obtain ⟨l1, l2, l3, l4⟩ := look_bd b1 b2 (el i 0)
    obtain ⟨q, hq⟩ := Int.eq_ofNat_of_zero_le l1
    have hcq := hcl q (by omega)
    have e32 : (2 : Int) ^ (32 : Int).toNat = 4294967296 := by decide
    refine awDraw_M 6 [[],[],[1],[],[3],[4,3],[5,4,3,2,1],[2,1,6,5,4,3],[7,2,1,6,5,4,3],[0,8,7,2,1,6,5,4,3],[9,0,8,7,2,1,6,5,4,3],[10,9,0,8,7,2,1,6,5,4,3]] [0] (by kernel_rfl) (by decide +kernel) (by decide +kernel) ?_
    simp (disch := omega) [c0, he]
    refine awCall_det' (size_ia (by omega)) (by first | omega | (simp <;> omega) | simp) ?_
    simp (disch := omega) [c0, he]
    refine awCall_det' (unsigned_i _) (by first | omega | (simp <;> omega) | simp) ?_
    rw [hnl] at l2 l3 l4 hq
    simp (disch := omega) [wrap_in]
    rw [binV_shift rfl, shrS (by omega) (by omega), ow_some, e32, hq]
    have hqn : q < nl := by omega
    simp (disch := omega) [hcq, hel, hqn]
    simp [outV, hkk, lookV, hnl, hq]
  simp [k13]
  by_cases k15 : kk = 15
  · subst k15
    obtain ⟨id, off, d, rfl, he, c0, c1, c2⟩ := slv_at hi (n := 3) (by rw [hil]; rw [if_neg (by omega)]; exact hx.three (by omega)) (by omega)
    replace c0 := cellAt_app c0 [Slot.live ⟨[iv 15, iv x.a, iv x.b, .slice A n c], true, true, 138, 4⟩]
    have c1' := cellAt_app (c1 (by omega)) [Slot.live ⟨[iv 15, iv x.a, iv x.b, .slice A n c], true, true, 138, 4⟩]
    have c2' := cellAt_app (c2 (by omega)) [Slot.live ⟨[iv 15, iv x.a, iv x.b, .slice A n c], true, true, 138, 4⟩]
    replace he := rowEsz_keeps (keeps_app [Slot.live ⟨[iv 15, iv x.a, iv x.b, .slice A n c], true, true, 138, 4⟩]) he
    simp
    simp [c0, he]
    by_cases h0 : 0 ≤ el i 0
    · simp [h0, c1', he, outV, hkk]
    · simp [h0, c2', he, outV, hkk]
  simp [k15]
  obtain rfl : kk = 1 := by omega
  obtain ⟨id, off, d, rfl, he, c0, c1, c2⟩ := slv_at hi (n := 1) (by rw [hil]; first | rw [if_pos (by omega)] | (rw [if_neg (by omega)]; exact hx.one (by omega))) (by omega)
  replace c0 := cellAt_app c0 [Slot.live ⟨[iv 1, iv x.a, iv x.b, .slice A n c], true, true, 138, 4⟩]
  replace he := rowEsz_keeps (keeps_app [Slot.live ⟨[iv 1, iv x.a, iv x.b, .slice A n c], true, true, 138, 4⟩]) he
  simp [c0, he, outV, hkk]
end Go.Proofs.Ytimijeeihicohaa

namespace Go.Proofs.Ytimijeeihicohaa
open Go.RowKit
set_option linter.unusedVariables false
set_option linter.unusedSimpArgs false
section
variable {P : Program} {b : Nat}
theorem compact_sim {M M' : Mem} {μ μ' : Map} {w w' : World} {q : Nat} {row : Row} {t : Bool} (hS : Sim M μ w) (hS' : Sim M' μ' w') (hst : Step b M μ w M' μ' w') (hk : Keeps M M') (hq : M.length ≤ q) (hr : M'[q]? = some (.live ⟨row.cells, row.own, t, row.elem, row.esz⟩)) (ht : row.tight = true → t = true) (hp : row.cells.all plainV = true) :
    Sim (M ++ [.live row]) (μ.set M.length (μ'.at_ q) (μ'.room q)) w' ∧ Step b M μ w (M ++ [.live row]) (μ.set M.length (μ'.at_ q) (μ'.room q)) w' := by
  have hS0 := hS.forget hS' hst hk
  have st0 := hst.forget hk
  have hvv : ∀ x y, VRel M μ x y → VRel (M ++ [Slot.live row]) (μ.set M.length (μ'.at_ q) (μ'.room q)) x y := fun x y hx => hx.same fun i s hs _ => by
    have hi := (List.getElem?_eq_some_iff.1 hs).1
    exact ⟨by rw [getElem?_snoc_lt hi]; exact hs, Map.set_at_ne (by omega), Map.set_room_ne (by omega)⟩
  have back : ∀ (i : Nat) r, (M ++ [Slot.live row])[i]? = some (.live r) → (i < M.length ∧ M[i]? = some (.live r)) ∨ (i = M.length ∧ r = row) := fun i r h => by
    rcases getElem?_snoc_inv h with ⟨hi, h⟩ | ⟨hi, he⟩
    · exact .inl ⟨hi, h⟩
    · injection he with he
      exact .inr ⟨hi, he⟩
  have hR := hS'.row q _ hr
  constructor
  · constructor
    · intro id r h
      rcases back id r h with ⟨hi, h⟩ | ⟨rfl, rfl⟩
      · obtain ⟨a1, a2, a3⟩ := hS0.row id r h
        refine ⟨by rw [Map.set_at_ne (by omega)]; exact a1, fun j c hj => ?_, ?_⟩
        · rw [Map.set_at_ne (by omega)]
          obtain ⟨d, hd, hv⟩ := a2 j c hj
          exact ⟨d, hd, hvv _ _ hv⟩
        · rw [Map.set_at_ne (by omega), Map.set_room_ne (by omega)]
          exact a3
      · obtain ⟨a1, a2, a3⟩ := hR
        refine ⟨by rw [Map.set_at]; exact a1, fun j c hj => ?_, fun ho => ?_⟩
        · rw [Map.set_at]
          obtain ⟨d, hd, hv⟩ := a2 j c hj
          have hpc := List.all_eq_true.1 hp c (List.mem_of_getElem? hj)
          have := hv.of_plain hpc
          subst this
          exact ⟨d, hd, .plain hpc⟩
        · rw [Map.set_at, Map.set_room]
          obtain ⟨bb, cur, fr, c1, c2, c3, c4, c5, c6⟩ := a3 ho
          exact ⟨bb, cur, fr, c1, c2, c3, c4, c5, fun h => c6 (ht h)⟩
    · intro i j r s h1 h2 hij ho
      rcases back i r h1 with ⟨hi, g1⟩ | ⟨ei, er⟩
      · rcases back j s h2 with ⟨hj, g2⟩ | ⟨ej, es⟩
        · rw [Map.set_at_ne (by omega), Map.set_at_ne (by omega)]
          exact hS0.inj i j r s g1 g2 hij ho
        · rw [ej, Map.set_at_ne (by omega), Map.set_at, ← (hst.map i hi).1]
          exact hS'.inj i q r _ (hk.get g1) hr (by omega) ho
      · rcases back j s h2 with ⟨hj, g2⟩ | ⟨ej, es⟩
        · rw [ei, Map.set_at_ne (i := j) (by omega), Map.set_at, ← (hst.map j hj).1]
          rw [er] at ho
          exact hS'.inj q j _ s hr (hk.get g2) (by omega) ho
        · omega
  · refine ⟨fun i s hs => ⟨s, by rw [getElem?_snoc_lt (List.getElem?_eq_some_iff.1 hs).1]; exact hs, Slot.evolves_refl _ _⟩, fun i hi => ⟨Map.set_at_ne (by omega), Map.set_room_ne (by omega)⟩, st0.os, st0.tape, st0.output, st0.size, st0.block, fun i r' hi h => ?_⟩
    rcases back i r' h with ⟨hi', h⟩ | ⟨rfl, rfl⟩
    · omega
    · rw [Map.set_at]
      exact hst.fresh q _ hq hr
theorem compact_val {M M' : Mem} {μ μ' : Map} {q n m : Nat} {row : Row} {t : Bool} {d : Value} (hr : M'[q]? = some (.live ⟨row.cells, row.own, t, row.elem, row.esz⟩)) (hv : VRel M' μ' (.slice (some ⟨q, 0, none⟩) n m) d) :
    VRel (M ++ [.live row]) (μ.set M.length (μ'.at_ q) (μ'.room q)) (.slice (some ⟨M.length, 0, none⟩) n n) d := by
  obtain ⟨-, a, cp, s, rfl, h1, h2, h3, h4, h5⟩ := hv.sl_inv
  rw [hr] at h1
  injection h1 with h1
  obtain ⟨h6, h7⟩ := h5 _ h1.symm
  refine .sl getElem?_snoc_eq rfl h3 h4 fun r hr' => ?_
  injection hr' with hr'
  subst hr'
  rw [Map.set_at, Map.set_room]
  exact ⟨h6, h7⟩
/-- The row that a slice is. -/
def NewRow (M : Mem) (v : Value) (M' : Mem) (n : Nat) (row : Row) : Prop := ∃ q m t, v = .slice (some ⟨q, 0, none⟩) n m ∧ M.length ≤ q ∧ M'[q]? = some (.live ⟨row.cells, row.own, t, row.elem, row.esz⟩) ∧ (row.tight = true → t = true)
theorem Ctr.compact {f : FuncId} {args : List Value} {M : Mem} {n : Nat} {row : Row} (hp : row.cells.all plainV = true) (h : Ctr P b f args M fun v' M' => NewRow M v' M' n row ∧ Keeps M M') : Det P b f args M (.slice (some ⟨M.length, 0, none⟩) n n) (M ++ [.live row]) :=
  ⟨h.fn, fun μ w cs hl hS => (h.run μ w cs hl hS).mono fun e w' ⟨v', M', c, μ', ⟨⟨q, m, t, h1, h2, h3, h4⟩, hk⟩, he, hv, hS', hst⟩ => by
    subst h1
    obtain ⟨g1, g2⟩ := compact_sim hS hS' hst hk h2 h3 h4 hp
    exact ⟨c, _, he, compact_val h3 hv, g1, g2⟩⟩
/-- The same, where the row comes with a number. -/
theorem Ctr.compact2 {f : FuncId} {args : List Value} {M : Mem} {n : Nat} {row : Row} {u : Value} (hu : plainV u = true) (hp : row.cells.all plainV = true) (h : Ctr P b f args M fun v' M' => ∃ v, v' = .tuple #[u, v] ∧ NewRow M v M' n row ∧ Keeps M M') : Det P b f args M (.tuple #[u, .slice (some ⟨M.length, 0, none⟩) n n]) (M ++ [.live row]) :=
  ⟨h.fn, fun μ w cs hl hS => (h.run μ w cs hl hS).mono fun e w' ⟨v', M', c, μ', ⟨v, e1, ⟨q, m, t, h1, h2, h3, h4⟩, hk⟩, he, hv, hS', hst⟩ => by
    subst h1
    subst e1
    obtain ⟨ys, rfl, hl2⟩ := hv.tup_inv
    obtain ⟨g1, g2⟩ := compact_sim hS hS' hst hk h2 h3 h4 hp
    refine ⟨_, _, he, ?_, g1, g2⟩
    have e0 := hl2.1
    obtain ⟨y0, hy0, r0⟩ := hl2.at_ (i := 0) (x := u) rfl
    obtain ⟨y1, hy1, r1⟩ := hl2.at_ (i := 1) (x := .slice (some ⟨q, 0, none⟩) n m) rfl
    refine .tup (by simpa using e0) fun i x y hx hy => ?_
    have hx' : ([u, .slice (some ⟨M.length, 0, none⟩) n n] : List Value)[i]? = some x := by simpa using hx
    have hy' : ys.toList[i]? = some y := by simpa using hy
    match i, hx' with
    | 0, hx' =>
      simp at hx'
      subst hx'
      rw [hy0] at hy'
      injection hy' with hy'
      subst hy'
      have := r0.of_plain hu
      subst this
      exact .plain hu
    | 1, hx' =>
      simp at hx'
      subst hx'
      rw [hy1] at hy'
      injection hy' with hy'
      subst hy'
      exact compact_val h3 r1
    | i + 2, hx' => simp at hx'⟩
end
end Go.Proofs.Ytimijeeihicohaa

namespace Go.Proofs.Ytimijeeihicohaa
open Go.RowKit
set_option linter.unusedVariables false
set_option linter.unusedSimpArgs false
set_option maxRecDepth 100000
attribute [local simp] List.getElem?_cons_zero
attribute [local irreducible] awCond awCall awLoop awDraw ow retQ retC resQ Keeps
def rowI (l : List Int) : Row := ⟨cellsL intR l, true, false, 2, 1⟩
theorem rowI_plain (l : List Int) : (rowI l).cells.all plainV = true := by
  show (cellsL intR l).all plainV = true
  induction l with
  | nil => rfl
  | cons a l ih => rw [cellsL_cons, List.all_append, ih]; rfl
theorem rowI_slv {M : Mem} {l : List Int} (hl : l.length ≤ 1048576) : SlV intP M.length (M ++ [Slot.live (rowI l)]).length (M ++ [Slot.live (rowI l)]) (.slice (some ⟨M.length, 0, none⟩) l.length l.length) l := by
  refine ⟨_, _, _, rfl, by omega, (fun h => by cases h), SlP.of_sl ⟨rfl, fun _ => ⟨M.length, 0, rfl, by simp [rowEsz, rowI], fun j y hy => by simpa [cellAt, rowI] using hy⟩⟩ fun a e _ => ?_⟩
  injection e with e
  subst e
  exact ⟨Nat.le_refl _, by simp⟩
theorem rowI_acc {M : Mem} {l : List Int} : Acc intR 2 M.length (M ++ [Slot.live (rowI l)]) (.slice (some ⟨M.length, 0, none⟩) l.length l.length) l :=
  ⟨_, _, _, rfl, rfl, .inr ⟨M.length, false, rfl, Nat.le_refl _, by simp [rowI]⟩⟩
theorem Acc.newRow {M M' : Mem} {v : Value} {l : List Int} (h : Acc intR 2 M.length M' v l) (hn : ∃ a n c, v = .slice (some a) n c) : NewRow M v M' l.length (rowI l) := by
  obtain ⟨A, n, c, rfl, hl, hA⟩ := h
  subst hl
  rcases hA with ⟨rfl, -, -⟩ | ⟨id, t, rfl, hid, hr⟩
  · obtain ⟨a, n, c, e⟩ := hn
    cases e
  · exact ⟨id, c, t, rfl, hid, hr, fun h => by cases h⟩
theorem append_nn {P : Program} {b : Nat} {S : St} {K : Value → Mem → Prop} {t tx : TypeId} {a : Addr} {n c : Nat} {x : Value} (h : appendK P b S K t tx (.slice (some a) n c) x) : appendK P b S (fun v M => K v M ∧ ∃ a n c, v = .slice (some a) n c) t tx (.slice (some a) n c) x := by
  unfold appendK at h ⊢
  obtain ⟨q, hq, h⟩ := ow_iff.1 h
  obtain ⟨mn, hs, h1, h2, h⟩ := ow_iff.1 h
  refine ow_iff.2 ⟨q, hq, ow_iff.2 ⟨mn, hs, h1, h2, ?_⟩⟩
  obtain ⟨id, off, sp⟩ := a
  rcases off with _ | off
  · rcases sp with _ | sp
    · simp only at h ⊢
      cases hm : S.M[id]? with
      | none => rw [hm] at h; exact h.elim
      | some s =>
        cases s with
        | dead => rw [hm] at h; exact h.elim
        | hole => rw [hm] at h; exact h.elim
        | live r =>
          rw [hm] at h
          obtain ⟨g1, g2, g3, g4, g5⟩ := h
          refine ⟨g1, g2, g3, fun e => ⟨g4 e, _, _, _, rfl⟩, fun e => ?_⟩
          have := g5 e
          split at this
          · rename_i ht
            rw [if_pos ht]
            exact ⟨this, _, _, _, rfl⟩
          · rename_i ht
            rw [if_neg ht]
            exact ⟨this.1, this.2, _, _, _, rfl⟩
    · exact h.elim
  · exact h.elim
theorem append_ctr {P : Program} {b : Nat} {S : St} {K K' : Value → Mem → Prop} {t tx : TypeId} {s x : Value} (h : appendK P b S K t tx s x) (hk : ∀ v M, K v M → K' v M) : appendK P b S K' t tx s x := by
  obtain ⟨v, M, h1, h2⟩ := pt_append K h
  exact h2 K' (hk v M h1)
theorem clone_x {M : Mem} {lo hi : Nat} {u : Value} {l : List Int} (h : SlV intP lo hi M u l) (hn : l.length ≤ 1048576) : Det Try.prog M.length 90 [u] M (.slice (some ⟨M.length, 0, none⟩) l.length l.length) (M ++ [.live (rowI l)]) := by
  refine Ctr.compact (rowI_plain l) ?_
  obtain ⟨A, n, c, rfl, hl, -, hS, hc⟩ := sl_take h
  first | (refine ctr_fn Try.func90 rfl Try.ntmps90 Try.results90 rfl rfl (by simp) ?_) | (refine ctr_fnC Try.func90 rfl Try.ntmps90 Try.results90 rfl (by simp) ?_)
  simp
  have hA0 : Acc intR 2 M.length (M ++ [Slot.live ⟨[], true, true, 2, 1⟩]) (.slice (some ⟨M.length, 0, none⟩) 0 0) [] := ⟨_, 0, 0, rfl, rfl, .inr ⟨M.length, true, rfl, Nat.le_refl _, by simp [cellsL]⟩⟩
  obtain ⟨v', M', a1, a2, a3⟩ := clone_det (P := Try.prog) (t := 46) (e := 2) (by_ := 8) (b := M.length) (S := ⟨0, [], M ++ [Slot.live ⟨[], true, true, 2, 1⟩]⟩) (hS.keeps (keeps_app _)) hc hA0 (Nat.le_refl _) (by simp) (by simp) ⟨_, Try.underlying46⟩ (by kernel_rfl) (by omega) (by unfold maxLen; omega)
  refine appendK_M (S := ⟨0, [], M ++ [Slot.live ⟨[], true, true, 2, 1⟩]⟩) (by rfl) (append_ctr (append_nn (a3 (fun v M => v = v' ∧ M = M') ⟨rfl, rfl⟩)) ?_)
  rintro v M2 ⟨⟨rfl, rfl⟩, hnn⟩
  try simp
  exact ⟨a1.newRow hnn, slt (Same.trans' (Same.appS _ _) a2)⟩
end Go.Proofs.Ytimijeeihicohaa

namespace Go.Proofs.Ytimijeeihicohaa
open Go.RowKit
set_option linter.unusedVariables false
set_option linter.unusedSimpArgs false
set_option maxRecDepth 100000
attribute [local simp] List.getElem?_cons_zero
attribute [local irreducible] awCond awCall awLoop awDraw ow retQ retC resQ Keeps
theorem newRow_at {M A : Mem} {q : Nat} {l : List Int} {t : Bool} {c : Nat} (hq : M.length ≤ q) (hr : A[q]? = some (.live ⟨cellsL intR l, true, t, 2, 1⟩)) : NewRow M (.slice (some ⟨q, 0, none⟩) l.length c) A l.length (rowI l) := ⟨q, c, t, rfl, hq, hr, fun h => by cases h⟩
theorem mapped_x {M : Mem} {lo hi lo' hi' : Nat} {u v : Value} {l vals : List Int} (h : SlV intP lo hi M u l) (h' : SlV intP lo' hi' M v vals) (hl : l.length ≤ 1048576) (hx : ∀ k, k < l.length → ∃ f : Nat, el l k = f ∧ f < vals.length) :
    Det Try.prog M.length 138 [u, v] M (.slice (some ⟨M.length, 0, none⟩) l.length l.length) (M ++ [.live (rowI (l.map fun f => el vals f.toNat))]) := by
  have e : l.length = (l.map fun f => el vals f.toNat).length := by simp
  rw [e]
  refine Ctr.compact (rowI_plain _) ?_
  obtain ⟨A, n, c, rfl, hn, hn2, hS, -⟩ := sl_take h
  obtain ⟨B, m, d, rfl, hm, hm2, hT, -⟩ := sl_take h'
  first | (refine ctr_fn Try.func138 rfl Try.ntmps138 Try.results138 rfl rfl (by simp) ?_) | (refine ctr_fnC Try.func138 rfl Try.ntmps138 Try.results138 rfl (by simp) ?_)
  simp
  refine awLoop_T (fun q T M' => ∃ (k : Nat) (r : Value), k + q = n ∧ Same M.length M M' ∧ M.length < M'.length ∧ Acc intR 2 M.length M' r ((l.take k).map fun f => el vals f.toNat) ∧ (∃ a n c, r = .slice (some a) n c) ∧ look T 5 = some r ∧ look T 11 = some (iv k) ∧ look T 10 = some (iv n) ∧ look T 9 = some (.slice A n c) ∧ look T 1 = some (.slice B m d)) n
    ⟨0, _, by omega, .appS _ _, by simp, ⟨_, 0, 0, rfl, rfl, .inr ⟨M.length, true, rfl, Nat.le_refl _, by simp [cellsL]⟩⟩, ⟨_, _, _, rfl⟩, by simp, by simp, by simp, by simp, by simp⟩ ?_
  rintro q T M1 ⟨k, r, hq, i1, i2, i3, ⟨ra, rn, rc, rfl⟩, t5, t11, t10, t9, t1⟩
  by_cases hlt : k < n
  · obtain ⟨id, off, rfl, he, hc⟩ := sl_cells hS (by omega)
    obtain ⟨p, hp, hpl⟩ := hx k (by omega)
    obtain ⟨id', off', rfl, he', hc'⟩ := sl_cells hT (by omega)
    have kk := slt i1
    have c1 := cellAt_keeps kk (hc k hlt)
    have c2 := cellAt_keeps kk (hc' p (by omega))
    rw [hp] at c1
    have e1 := rowEsz_keeps kk he
    have e2 := rowEsz_keeps kk he'
    have hpm : p < m := by omega
    simp (disch := omega) [t5, t11, t10, t9, t1, hlt, c1, c2, e1, e2, wrap_in, hpm, fill1I]
    obtain ⟨v', M', a1, a2, a3⟩ := append_det (P := Try.prog) (t := 46) (tx := 46) (e := 2) (by_ := 8) (b := M.length) (S := ⟨0, [], M1 ++ [Slot.live ⟨[iv (el vals p)], true, true, 2, 1⟩]⟩) (x := .slice (some ⟨M1.length, 0, none⟩) 1 1) (a := el vals p) (i3.keeps (keeps_app _)) (Nat.le_refl _) (by simp; omega) (by simp) (by kernel_rfl) (by simp [srcOf]; rfl) (by simp; omega) (by simp; unfold maxLen; omega)
    refine appendK_M (S := ⟨0, [], M1 ++ [Slot.live ⟨[iv (el vals p)], true, true, 2, 1⟩]⟩) (by rfl) (append_ctr (append_nn (a3 (fun v M => v = v' ∧ M = M') ⟨rfl, rfl⟩)) ?_)
    rintro v M2 ⟨⟨rfl, rfl⟩, hnn⟩
    have hs := Same.trans' (Same.trans' i1 (Same.appB _ _)) a2
    have hml : M.length < M2.length := by have := a2.1; simp at this; omega
    try simp (disch := omega) [t5, t11, t10, t9, t1, wrap_in]
    refine lpI (q - 1) (by omega) ⟨k + 1, _, by omega, hs, hml, ?_, hnn, by simp, by simp, by simp [t10], by simp [t9], by simp [t1]⟩
    rw [take_el (by omega), List.map_append]
    simpa [hp] using a1
  · obtain rfl : k = n := by omega
    rw [List.take_of_length_le (by omega)] at i3
    simp [t5, t11, t10, t9, t1]
    have := i3.newRow ⟨_, _, _, rfl⟩
    simp at this
    exact ⟨this, slt i1⟩
theorem start_x {M : Mem} {lo hi : Nat} {us : List Value} {x : Node} {p : Patch} (h : nodeP.rd lo hi M x us) (hx : NodeOk p x) :
    Det Try.prog M.length 128 [.agg us.toArray] M (.slice (some ⟨M.length, 0, none⟩) (startV x).length (startV x).length) (M ++ [.live (rowI (startV x))]) := by
  refine Ctr.compact (rowI_plain _) ?_
  obtain ⟨A, n, c, rfl, hu⟩ := node_box h
  first | (refine ctr_fn Try.func128 rfl Try.ntmps128 Try.results128 rfl rfl (by simp) ?_) | (refine ctr_fnC Try.func128 rfl Try.ntmps128 Try.results128 rfl (by simp) ?_)
  simp
  generalize hkk : x.k = kk at *
  have fin : ∀ (N : Nat) (l : List Int), l = List.replicate N 0 → NewRow M (.slice (some ⟨(M ++ [Slot.live ⟨[iv kk, iv x.a, iv x.b, .slice A n c], true, true, 138, 4⟩]).length, 0, none⟩) N N) (M ++ [Slot.live ⟨[iv kk, iv x.a, iv x.b, .slice A n c], true, true, 138, 4⟩] ++ [.live ⟨cellsL intR (List.replicate N 0), true, true, 2, 1⟩]) l.length (rowI l) := by
    rintro N l rfl
    have := newRow_at (M := M) (A := M ++ [Slot.live ⟨[iv kk, iv x.a, iv x.b, .slice A n c], true, true, 138, 4⟩] ++ [.live ⟨cellsL intR (List.replicate N 0), true, true, 2, 1⟩]) (q := (M ++ [Slot.live ⟨[iv kk, iv x.a, iv x.b, .slice A n c], true, true, 138, 4⟩]).length) (l := List.replicate N 0) (t := true) (c := N) (by simp) getElem?_snoc_eq
    simpa using this
  have hs : startV x = startV x := rfl
  generalize hl : startV x = l at hs ⊢
  have hl2 := hl
  unfold startV at hl2
  rw [hkk] at hl2
  generalize hxa : x.a = xa at *
  generalize hxb : x.b = xb at *
  by_cases k6 : kk = 6
  · obtain ⟨a1, a2⟩ := hx.del (by omega)
    obtain ⟨a, rfl⟩ := Int.eq_ofNat_of_zero_le (show 0 ≤ xa by omega)
    simp [k6] at hl2 ⊢
    refine awCall_det' (zeros_i a (by omega)) (by first | omega | (simp <;> omega) | simp) ?_
    simp
    have := fin a l hl2.symm
    simp [k6] at this
    refine ⟨this, ?_⟩
    exact keeps_app _
  by_cases k17 : kk = 17
  · obtain ⟨a1, a2⟩ := hx.comb (by omega)
    obtain ⟨a, rfl⟩ := Int.eq_ofNat_of_zero_le (show 0 ≤ xb by omega)
    simp [k17] at hl2 ⊢
    refine awCall_det' (zeros_i a (by omega)) (by first | omega | (simp <;> omega) | simp) ?_
    simp
    have := fin a l hl2.symm
    simp [k17] at this
    exact ⟨this, keeps_app _⟩
  by_cases k7 : kk = 7 ∨ kk = 8 ∨ kk = 16
  · have hl3 : l = [0] := by
      rcases k7 with h | h | h <;> simp [h] at hl2 <;> exact hl2.symm
    have t := fin 1 l (by rw [hl3]; rfl)
    rcases k7 with h | h | h
    all_goals
      simp [h] at t ⊢
      refine awCall_det' (zeros_i 1 (by omega)) (by first | omega | (simp <;> omega) | simp) ?_
      simp
      exact ⟨t, keeps_app _⟩
  by_cases k12 : kk = 12 ∨ kk = 14
  · have hl3 : l = [xa] := by
      rcases k12 with h | h <;> simp [h] at hl2 <;> exact hl2.symm
    subst hl3
    rcases k12 with h | h
    all_goals
      simp [h, fill1I]
      exact ⟨⟨M.length + 1, 1, true, rfl, by omega, by simp [rowI, cellsL, intR], fun h => by cases h⟩, keeps_app _⟩
  have hl3 : l = [] := by
    have n1 : ¬ (kk = 7 ∨ kk = 8 ∨ kk = 16) := k7
    simp [k6, k17, n1, k12] at hl2
    exact hl2
  have t := fin 0 l (by rw [hl3]; rfl)
  have n7 : ¬ kk = 7 := fun h => k7 (.inl h)
  have n8 : ¬ kk = 8 := fun h => k7 (.inr (.inl h))
  have n16 : ¬ kk = 16 := fun h => k7 (.inr (.inr h))
  have n12 : ¬ kk = 12 := fun h => k12 (.inl h)
  have n14 : ¬ kk = 14 := fun h => k12 (.inr h)
  simp [k6, k17, n7, n8, n16, n12, n14] at t ⊢
  refine awCall_det' (zeros_i 0 (by omega)) (by first | omega | (simp <;> omega) | simp) ?_
  simp
  exact ⟨t, keeps_app _⟩
end Go.Proofs.Ytimijeeihicohaa

namespace Go.Proofs.Ytimijeeihicohaa
open Go.RowKit
set_option linter.unusedVariables false
set_option linter.unusedSimpArgs false
set_option maxRecDepth 100000
attribute [local simp] List.getElem?_cons_zero
attribute [local irreducible] awCond awCall awLoop awDraw ow retQ retC resQ Keeps
theorem newRow_in {M A : Mem} {q n : Nat} {l : List Int} {t : Bool} {c : Nat} (hn : l.length = n) (hq : M.length ≤ q) (hr : A[q]? = some (.live ⟨cellsL intR l, true, t, 2, 1⟩)) : NewRow M (.slice (some ⟨q, 0, none⟩) n c) A n (rowI l) := ⟨q, c, t, rfl, hq, hr, fun h => by cases h⟩
theorem inV_len {x : Node} {fr vals : List Int} : (inV x fr vals).length = if x.k = 1 then 1 else x.from_.length := by
  unfold inV
  split <;> simp
theorem slv_drop {M : Mem} {lo hi id off n c : Nat} {l : List Int} (h : SlV intP lo hi M (.slice (some ⟨id, off, none⟩) n c) l) (hn : 1 ≤ n) : SlV intP lo hi M (.slice (some ⟨id, off + 1, none⟩) (n - 1) (n - 1)) (l.drop 1) := by
  obtain ⟨A, m, d, e, h1, h2, h3⟩ := h
  injection e with e1 e2 e3
  subst e1; subst e2; subst e3
  refine ⟨_, _, _, rfl, by omega, (fun h => by cases h), by rw [List.length_drop, h3.1], fun hp => ?_⟩
  obtain ⟨id', off', e, g1, g2, g3, g4⟩ := h3.2 (by omega)
  injection e with e
  injection e with e1 e2
  subst e1; subst e2
  refine ⟨_, _, rfl, g1, g2, g3, fun i hi => ?_⟩
  obtain ⟨us, a, b⟩ := g4 (i + 1) (by omega)
  refine ⟨us, ?_, ?_⟩
  · rw [show el (l.drop 1) i = el l (i + 1) by unfold el; simp [List.getD_eq_getElem?_getD, Nat.add_comm]]
    exact a
  · rw [show off + 1 + i * 1 = off + (i + 1) * 1 by omega]
    exact b
theorem NewRow.keeps {M M1 M2 : Mem} {v : Value} {n : Nat} {row : Row} (h : NewRow M v M1 n row) (hk : Keeps M1 M2) : NewRow M v M2 n row := by
  obtain ⟨q, m, t, h1, h2, h3, h4⟩ := h
  exact ⟨q, m, t, h1, h2, hk.get h3, h4⟩
theorem append_new {M M1 : Mem} {b : Nat} {S : St} {v x : Value} {l : List Int} {a : Int} (hx : x = .slice (some ⟨M1.length, 0, none⟩) 1 1) (hM : S.M = M1 ++ [Slot.live ⟨[iv a], true, true, 2, 1⟩]) (h : Acc intR 2 M.length M1 v l) (hs : Same M.length M M1) (hnn : ∃ a n c, v = .slice (some a) n c) (hb : b ≤ M.length) (hl : l.length ≤ 1048576) {K : Value → Mem → Prop}
    (hK : ∀ r M', NewRow M r M' (l ++ [a]).length (rowI (l ++ [a])) → Keeps M M' → K r M') : appendK Try.prog b S K 46 46 v x := by
  subst hx
  obtain ⟨ra, rn, rc, rfl⟩ := hnn
  obtain ⟨v', M', a1, a2, a3⟩ := append_det (P := Try.prog) (t := 46) (tx := 46) (e := 2) (by_ := 8) (b := b) (S := ⟨0, [], M1 ++ [Slot.live ⟨[iv a], true, true, 2, 1⟩]⟩) (x := .slice (some ⟨M1.length, 0, none⟩) 1 1) (a := a) (h.keeps (keeps_app _)) hb (by have := hs.1; simp; omega) (by simp) (by kernel_rfl) (by simp [srcOf]; rfl) (by omega) (by unfold maxLen; omega)
  refine appendK_M (S := ⟨0, [], M1 ++ [Slot.live ⟨[iv a], true, true, 2, 1⟩]⟩) hM.symm (append_ctr (append_nn (a3 (fun v M => v = v' ∧ M = M') ⟨rfl, rfl⟩)) ?_)
  rintro v M2 ⟨⟨rfl, rfl⟩, hnn⟩
  exact hK _ _ (a1.newRow hnn) (slt (Same.trans' (Same.trans' hs (Same.appB _ _)) a2))
theorem inputs_x {M : Mem} {lo hi lo1 hi1 lo2 hi2 PB : Nat} {us : List Value} {x : Node} {vv fv : Value} {fr vals : List Int} {p : Patch} (h : nodeP.rd lo hi M x us) (hv : cellAt M PB 5 = some vv) (hvv : SlV intP lo1 hi1 M vv vals) (hf : SlV intP lo2 hi2 M fv fr) (hx : NodeOk p x) (hfl : p.inp = fr.length) (hvl : vals.length = p.nodes.length) :
    Det Try.prog M.length 137 [.pointer (some ⟨PB, 0, none⟩), .agg us.toArray, fv] M (.slice (some ⟨M.length, 0, none⟩) (inV x fr vals).length (inV x fr vals).length) (M ++ [.live (rowI (inV x fr vals))]) := by
  refine Ctr.compact (rowI_plain _) ?_
  obtain ⟨A, n, c, rfl, hu⟩ := node_box h
  first | (refine ctr_fn Try.func137 rfl Try.ntmps137 Try.results137 rfl rfl (by simp) ?_) | (refine ctr_fnC Try.func137 rfl Try.ntmps137 Try.results137 rfl (by simp) ?_)
  simp
  by_cases k1 : x.k = 1
  · obtain ⟨a1, a2⟩ := hx.inp k1
    have e : inV x fr vals = [el fr x.a.toNat] := by simp [inV, k1]
    rw [e]
    obtain ⟨Af, nf, cf, rfl, hnf, -, hSf, -⟩ := sl_take hf
    obtain ⟨id, off, rfl, he, hc⟩ := sl_cells hSf (by omega)
    obtain ⟨a, ha⟩ := Int.eq_ofNat_of_zero_le a1
    have c1 := cellAt_app (hc a (by omega)) [Slot.live ⟨[iv 1, iv x.a, iv x.b, .slice A n c], true, true, 138, 4⟩]
    have e1 := rowEsz_keeps (keeps_app [Slot.live ⟨[iv 1, iv x.a, iv x.b, .slice A n c], true, true, 138, 4⟩]) he
    generalize hxa : x.a = xa at *
    subst ha
    have haf : a < nf := by omega
    simp (disch := omega) [k1, c1, e1, haf, fill1I]
    exact ⟨⟨M.length + 1, 1, true, rfl, by omega, by simp [rowI, cellsL, intR], fun h => by cases h⟩, keeps_app _⟩
  · have e : inV x fr vals = x.from_.map fun f => el vals f.toNat := by simp [inV, k1]
    rw [e]
    have hv' := cellAt_app hv [Slot.live ⟨[iv x.k, iv x.a, iv x.b, .slice A n c], true, true, 138, 4⟩]
    simp [k1]
    refine awDraw_E 6 [[],[0],[],[2],[3,2],[4,3,2],[1,0,5,4,3,2],[6,1,0,5,4,3,2]] (by kernel_rfl) (by kernel_rfl) ?_
    simp [hv']
    have hfr : x.from_.length ≤ 1048576 := by
      have := hx.kind
      have h1 := hx.one
      have h2 := hx.two
      have h3 := hx.three
      by_cases g3 : x.k = 15
      · have := h3 g3; omega
      by_cases g2 : x.k = 3 ∨ x.k = 4 ∨ x.k = 9 ∨ x.k = 16
      · have := h2 g2; omega
      by_cases g1 : x.k = 5 ∨ x.k = 6 ∨ x.k = 7 ∨ x.k = 8 ∨ x.k = 10 ∨ x.k = 11 ∨ x.k = 12 ∨ x.k = 13 ∨ x.k = 17
      · have := h1 g1; omega
      · have := hx.zero (by omega); omega
    refine awCall_det' (mapped_x (hu.app _) (hvv.app _) hfr fun k hk => ?_) (by first | omega | (simp <;> omega) | simp) ?_
    · have := List.all_eq_true.1 hx.idx _ (el_mem hk)
      have := inB_iff.1 this
      obtain ⟨f, hf⟩ := Int.eq_ofNat_of_zero_le this.1
      exact ⟨f, hf, by omega⟩
    simp
    exact ⟨newRow_in (t := false) (by simp) (by omega) (by simp [rowI]), keeps_app _⟩
def StepK (M : Mem) (o : Int) (l : List Int) (r : Value) (M' : Mem) : Prop := ∃ v, r = .tuple #[iv o, v] ∧ NewRow M v M' l.length (rowI l) ∧ Keeps M M'
set_option maxHeartbeats 1000000 in
theorem step_x {M : Mem} {lo hi lo1 hi1 lo2 hi2 lo3 hi3 : Nat} {us : List Value} {x : Node} {tv vi vs : Value} {i s : List Int} {p : Patch} (h : nodeP.rd lo hi M x us) (ht : x.k ≠ 6 → SlV tabP lo1 hi1 M tv p.tabs) (hi : SlV intP lo2 hi2 M vi i) (hs : SlV intP lo3 hi3 M vs s) (hx : NodeOk p x) (htb : tablesB p.tabs = true)
    (hil : i.length = if x.k = 1 then 1 else x.from_.length) (hsl : s.length = (startV x).length) :
    Det Try.prog M.length 136 [.agg us.toArray, tv, vi, vs] M (.tuple #[iv (outV x p.tabs i s), .slice (some ⟨M.length, 0, none⟩) (nextV x i s (outV x p.tabs i s)).length (nextV x i s (outV x p.tabs i s)).length]) (M ++ [.live (rowI (nextV x i s (outV x p.tabs i s)))]) := by
  refine Ctr.compact2 rfl (rowI_plain _) ?_
  show Ctr _ _ _ _ _ fun v' M' => StepK M (outV x p.tabs i s) (nextV x i s (outV x p.tabs i s)) v' M'
  obtain ⟨A, n, c, rfl, hu⟩ := node_box h
  have hbx : ∀ q, q = x.k → Keeps M (M ++ [Slot.live ⟨[iv q, iv x.a, iv x.b, .slice A n c], true, true, 138, 4⟩]) := fun q _ => keeps_app _
  first | (refine ctr_fn Try.func136 rfl Try.ntmps136 Try.results136 rfl rfl (by simp) ?_) | (refine ctr_fnC Try.func136 rfl Try.ntmps136 Try.results136 rfl (by simp) ?_)
  simp
  generalize ho : outV x p.tabs i s = o
  generalize hn : nextV x i s o = nx
  have ho2 := ho
  have hn2 := hn
  have hsl2 := hsl
  unfold outV at ho2
  unfold nextV at hn2
  unfold startV at hsl2
  generalize hkk : x.k = kk at *
  by_cases k6 : kk = 6
  · subst k6
    obtain ⟨idi, offi, di, rfl, ei, i0, i1, -⟩ := slv_at hi (n := 1) (by rw [hil, if_neg (by omega)]; exact hx.one (by omega)) (by omega)
    replace i0 := cellAt_app i0 [Slot.live ⟨[iv 6, iv x.a, iv x.b, .slice A n c], true, true, 138, 4⟩]
    replace ei := rowEsz_keeps (keeps_app [Slot.live ⟨[iv 6, iv x.a, iv x.b, .slice A n c], true, true, 138, 4⟩]) ei
    obtain ⟨ids, offs, ds, rfl, es, s0, s1, -⟩ := slv_at hs (n := s.length) (by rfl) (by have := hx.del (by omega); simp at hsl2; omega)
    replace s0 := cellAt_app s0 [Slot.live ⟨[iv 6, iv x.a, iv x.b, .slice A n c], true, true, 138, 4⟩]
    replace es := rowEsz_keeps (keeps_app [Slot.live ⟨[iv 6, iv x.a, iv x.b, .slice A n c], true, true, 138, 4⟩]) es
    have hc2 := hx.del (by omega)
    simp at ho2 hsl2 hn2
    have hgt : 0 < s.length := by omega
    have hd := slv_drop (hs.app [Slot.live ⟨[iv 6, iv x.a, iv x.b, .slice A n c], true, true, 138, 4⟩]) (by omega)
    have htl : s.tail.length = s.length - 1 := by simp
    rw [List.drop_one] at hd
    subst hn2
    generalize hT : s.tail = tl at *
    simp
    have kM := keeps_app (M := M) [Slot.live ⟨[iv 6, iv x.a, iv x.b, .slice A n c], true, true, 138, 4⟩]
    generalize M ++ [Slot.live ⟨[iv 6, iv x.a, iv x.b, .slice A n c], true, true, 138, 4⟩] = M0 at *
    have lM := kM.len
    refine awDraw_K (fun j => if j = 5 ∨ j = 9 then [10] else []) (fun k v M' => match k with
      | 0 => v = .slice (some ⟨ids, offs, none⟩) s.length ds
      | 1 => v = .pointer (some ⟨ids, offs, none⟩)
      | 2 => v = iv (el s 0)
      | 3 => v = .slice (some ⟨ids, offs, none⟩) s.length ds
      | 4 => v = .slice (some ⟨ids, offs + 1, none⟩) (s.length - 1) (s.length - 1)
      | 5 => Acc intR 2 M0.length M' v tl ∧ ∃ a n c, v = .slice (some a) n c
      | 6 => v = .slice (some ⟨idi, offi, none⟩) 1 di
      | 7 => v = .pointer (some ⟨idi, offi, none⟩)
      | 8 => v = iv (el i 0)
      | 9 => ∃ q, v = .slice (some ⟨q, 0, none⟩) 1 1 ∧ M'[q]? = some (.live ⟨[iv (el i 0)], true, true, 2, 1⟩)
      | 10 => NewRow M v M' (tl ++ [el i 0]).length (rowI (tl ++ [el i 0]))
      | 11 => v = iv (el s 0)
      | 12 => NewRow M v M' (tl ++ [el i 0]).length (rowI (tl ++ [el i 0]))
      | _ => True) ?_ (by kernel_rfl) (by decide +kernel) (by decide +kernel) ?_ ?_
    · intro k v M1 M2 h hk
      rcases k with _ | _ | _ | _ | _ | _ | _ | _ | _ | _ | _ | _ | _ | k
      · exact h
      · exact h
      · exact h
      · exact h
      · exact h
      · exact ⟨h.1.keeps hk, h.2⟩
      · exact h
      · exact h
      · exact h
      · obtain ⟨q, h1, h2⟩ := h
        exact ⟨q, h1, hk.get h2⟩
      · exact h.keeps hk
      · exact h
      · exact h.keeps hk
      · trivial
    · intro X k o T M1 K hC hX hk hp hf ho hK
      have kk1 := kM.trans hk
      have c_s := cellAt_keeps hk s0
      have c_i := cellAt_keeps hk i0
      have e_s := rowEsz_keeps hk es
      have e_i := rowEsz_keeps hk ei
      have f3 := hf 3 (by decide +kernel)
      have f2 := hf 2 (by decide +kernel)
      simp at f3 f2
      rcases k with _ | _ | _ | _ | _ | _ | _ | _ | _ | _ | _ | _ | _ | k
      · simp at ho; subst ho
        simp [f3]
        exact hK _ _ (.inl (Keeps.refl _)) rfl
      · obtain ⟨v, d, p⟩ := hp 0 17 (by decide +kernel) rfl
        rw [p (by simp)] at d
        simp at ho; subst ho
        simp [d, hgt, e_s]
        exact hK _ _ (.inl (Keeps.refl _)) rfl
      · obtain ⟨v, d, p⟩ := hp 1 18 (by decide +kernel) rfl
        rw [p (by simp)] at d
        simp at ho; subst ho
        simp [d, c_s]
        exact hK _ _ (.inl (Keeps.refl _)) rfl
      · simp at ho; subst ho
        simp [f3]
        exact hK _ _ (.inl (Keeps.refl _)) rfl
      · obtain ⟨v, d, p⟩ := hp 3 20 (by decide +kernel) rfl
        rw [p (by simp)] at d
        simp at ho; subst ho
        simp [d, e_s]
        exact ⟨by omega, hK _ _ (.inl (Keeps.refl _)) rfl⟩
      · obtain ⟨v, d, p⟩ := hp 4 21 (by decide +kernel) rfl
        rw [p (by simp)] at d
        simp at ho; subst ho
        simp [d]
        refine awCall_det' (clone_x (hd.keeps hk) (by omega)) (by have h9 : M0.length ≤ M1.length := hk.len; omega) ?_
        refine hK _ _ (.inl (keeps_app _)) ⟨?_, _, _, _, rfl⟩
        exact rowI_acc.low hk.len
      · simp at ho; subst ho
        simp [f2]
        exact hK _ _ (.inl (Keeps.refl _)) rfl
      · obtain ⟨v, d, p⟩ := hp 6 23 (by decide +kernel) rfl
        rw [p (by simp)] at d
        simp at ho; subst ho
        simp [d, e_i]
        exact hK _ _ (.inl (Keeps.refl _)) rfl
      · obtain ⟨v, d, p⟩ := hp 7 24 (by decide +kernel) rfl
        rw [p (by simp)] at d
        simp at ho; subst ho
        simp [d, c_i]
        exact hK _ _ (.inl (Keeps.refl _)) rfl
      · obtain ⟨v, d, p⟩ := hp 8 25 (by decide +kernel) rfl
        rw [p (by simp)] at d
        simp at ho; subst ho
        simp [d, fill1I]
        exact hK _ _ (.inl (keeps_app _)) ⟨_, rfl, getElem?_snoc_eq⟩
      · obtain ⟨v5, d5, p5⟩ := hp 5 22 (by decide +kernel) rfl
        obtain ⟨v9, d9, p9⟩ := hp 9 26 (by decide +kernel) rfl
        obtain ⟨hA, ra, rn, rc, rfl⟩ := p5 (by simpa using hX)
        obtain ⟨q, rfl, hq⟩ := p9 (by simpa using hX)
        simp at ho; subst ho
        simp [d5, d9]
        obtain ⟨v', M', a1, a2, a3⟩ := append_det (P := Try.prog) (t := 46) (tx := 46) (e := 2) (by_ := 8) (b := M.length) (S := ⟨0, [], M1⟩) (x := .slice (some ⟨q, 0, none⟩) 1 1) (a := el i 0) hA lM hk.len (by simp) (by kernel_rfl) (by simp [srcOf, cellsAt, hq]; rfl) (by omega) (by unfold maxLen; omega)
        refine appendK_M (S := ⟨0, [], M1⟩) (by rfl) (append_ctr (append_nn (a3 (fun v M => v = v' ∧ M = M') ⟨rfl, rfl⟩)) ?_)
        rintro v M2 ⟨⟨rfl, rfl⟩, hnn⟩
        refine hK _ _ (.inr ⟨a2.keeps hk (Nat.le_refl _), fun j u hj hkj hju => ?_⟩) ((a1.low lM).newRow hnn)
        rcases j with _ | _ | _ | _ | _ | _ | _ | _ | _ | _ | _ | _ | _ | j
        · exact hju
        · exact hju
        · exact hju
        · exact hju
        · exact hju
        · simp at hkj
        · exact hju
        · exact hju
        · exact hju
        · simp at hkj
        · rw [hX] at hj; cases hj
        · exact hju
        · have := hC.at_ 10 hj (by decide +kernel)
          rw [hX] at this; cases this
        · trivial
      · obtain ⟨v, d, p⟩ := hp 2 19 (by decide +kernel) rfl
        rw [p (by simp)] at d
        simp at ho; subst ho
        simp [d]
        exact hK _ _ (.inl (Keeps.refl _)) rfl
      · obtain ⟨v, d, p⟩ := hp 10 27 (by decide +kernel) rfl
        have p := p (by simp)
        simp at ho; subst ho
        simp [d]
        exact hK _ _ (.inl (Keeps.refl _)) p
      · simp at ho
    · intro T M1 hk hp hf
      obtain ⟨v8, d8, p8⟩ := hp 11 8 (by simp) rfl
      obtain ⟨v9, d9, p9⟩ := hp 12 9 (by simp) rfl
      have p8 := p8 (by simp)
      have p9 := p9 (by simp)
      subst p8
      simp [d8, d9]
      rw [ho2]
      exact ⟨_, rfl, p9, kM.trans hk⟩
  simp [k6]
  by_cases k7 : kk = 7
  · subst k7
    obtain ⟨idi, offi, di, rfl, ei, i0, i1, -⟩ := slv_at hi (n := 1) (by rw [hil, if_neg (by omega)]; exact hx.one (by omega)) (by omega)
    replace i0 := cellAt_app i0 [Slot.live ⟨[iv 7, iv x.a, iv x.b, .slice A n c], true, true, 138, 4⟩]
    replace ei := rowEsz_keeps (keeps_app [Slot.live ⟨[iv 7, iv x.a, iv x.b, .slice A n c], true, true, 138, 4⟩]) ei
    obtain ⟨ids, offs, ds, rfl, es, s0, s1, -⟩ := slv_at hs (n := 1) (by simpa using hsl2) (by omega)
    replace s0 := cellAt_app s0 [Slot.live ⟨[iv 7, iv x.a, iv x.b, .slice A n c], true, true, 138, 4⟩]
    replace es := rowEsz_keeps (keeps_app [Slot.live ⟨[iv 7, iv x.a, iv x.b, .slice A n c], true, true, 138, 4⟩]) es
    simp at ho2
    simp [ho2] at hn2
    simp
    refine awDraw_E 6 [[],[0],[1,0],[],[3],[4,3],[2,1,0,5,4,3],[6,2,1,0,5,4,3],[7,6,2,1,0,5,4,3]] (by kernel_rfl) (by kernel_rfl) ?_
    simp [i0, s0, ei, es]
    refine awCall_det' (Wrap_s _) (by first | omega | (simp <;> omega) | simp) ?_
    simp [smp_wrap, ho2, fill1I]
    rw [← hn2]
    exact ⟨_, rfl, newRow_in (t := true) (by simp) (by omega) (by simp [cellsL, intR]), keeps_app _⟩
  simp [k7]
  by_cases k8 : kk = 8
  · subst k8
    obtain ⟨idi, offi, di, rfl, ei, i0, i1, -⟩ := slv_at hi (n := 1) (by rw [hil, if_neg (by omega)]; exact hx.one (by omega)) (by omega)
    replace i0 := cellAt_app i0 [Slot.live ⟨[iv 8, iv x.a, iv x.b, .slice A n c], true, true, 138, 4⟩]
    replace ei := rowEsz_keeps (keeps_app [Slot.live ⟨[iv 8, iv x.a, iv x.b, .slice A n c], true, true, 138, 4⟩]) ei
    obtain ⟨ids, offs, ds, rfl, es, s0, s1, -⟩ := slv_at hs (n := 1) (by simpa using hsl2) (by omega)
    replace s0 := cellAt_app s0 [Slot.live ⟨[iv 8, iv x.a, iv x.b, .slice A n c], true, true, 138, 4⟩]
    replace es := rowEsz_keeps (keeps_app [Slot.live ⟨[iv 8, iv x.a, iv x.b, .slice A n c], true, true, 138, 4⟩]) es
    simp at ho2
    simp at hn2
    simp
    refine awDraw_D 13 [[],[0],[1,0],[],[3],[4,3],[2,1,0,5,4,3],[6,2,1,0,5,4,3],[],[8],[9,8],[10,9,8],[7,6,2,1,0,5,4,3],[11,10,9,8,12,7,6,2,1,0,5,4,3]] (by kernel_rfl) (by decide +kernel) ?_
    simp [i0, s0, ei, es]
    refine awCall_det' (d := true) (Wrap_s _) (by first | omega | (simp <;> omega) | simp) ?_
    simp [smp_wrap, ho2, fill1I, i0, ei, rowEsz_keeps, cellAt_app]
    rw [← hn2]
    exact ⟨_, rfl, newRow_in (t := true) (by simp) (by omega) (by simp [cellsL, intR]), keeps_app _⟩
  simp [k8]
  by_cases k12 : kk = 12
  · subst k12
    obtain ⟨idi, offi, di, rfl, ei, i0, i1, -⟩ := slv_at hi (n := 1) (by rw [hil, if_neg (by omega)]; exact hx.one (by omega)) (by omega)
    replace i0 := cellAt_app i0 [Slot.live ⟨[iv 12, iv x.a, iv x.b, .slice A n c], true, true, 138, 4⟩]
    replace ei := rowEsz_keeps (keeps_app [Slot.live ⟨[iv 12, iv x.a, iv x.b, .slice A n c], true, true, 138, 4⟩]) ei
    obtain ⟨ids, offs, ds, rfl, es, s0, s1, -⟩ := slv_at hs (n := 1) (by simpa using hsl2) (by omega)
    replace s0 := cellAt_app s0 [Slot.live ⟨[iv 12, iv x.a, iv x.b, .slice A n c], true, true, 138, 4⟩]
    replace es := rowEsz_keeps (keeps_app [Slot.live ⟨[iv 12, iv x.a, iv x.b, .slice A n c], true, true, 138, 4⟩]) es
    simp at ho2
    simp [ho2] at hn2
    simp
    refine awDraw_D 13 [[],[0],[1,0],[],[3],[4,3],[],[6],[7,6],[5,4,3,8,7,6],[9,5,4,3,8,7,6],[10,9,5,4,3,8,7,6],[2,1,0,10,9,5,4,3,8,7,6],[11,10,9,5,4,3,8,7,6,12,2,1,0]] (by kernel_rfl) (by decide +kernel) ?_
    simp [i0, s0, ei, es]
    refine awCall_det' (d := true) (Wrap_s _) (by first | omega | (simp <;> omega) | simp) ?_
    simp [smp_wrap, ho2, fill1I, i0, ei, rowEsz_keeps, cellAt_app]
    rw [← hn2]
    exact ⟨_, rfl, newRow_in (t := true) (by simp) (by omega) (by simp [cellsL, intR]), keeps_app _⟩
  simp [k12]
  by_cases k14 : kk = 14
  · subst k14
    obtain ⟨ids, offs, ds, rfl, es, s0, s1, -⟩ := slv_at hs (n := 1) (by simpa using hsl2) (by omega)
    replace s0 := cellAt_app s0 [Slot.live ⟨[iv 14, iv x.a, iv x.b, .slice A n c], true, true, 138, 4⟩]
    replace es := rowEsz_keeps (keeps_app [Slot.live ⟨[iv 14, iv x.a, iv x.b, .slice A n c], true, true, 138, 4⟩]) es
    simp at ho2
    simp [ho2] at hn2
    simp
    refine awDraw_D 9 [[],[0],[1,0],[],[3],[4,3],[5,4,3],[6,5,4,3],[2,1,0,6,5,4,3],[7,6,5,4,3,8,2,1,0]] (by kernel_rfl) (by decide +kernel) ?_
    simp [s0, es]
    refine awCall_det' (d := true) (noise_i _) (by first | omega | (simp <;> omega) | simp) ?_
    simp [ho2, fill1I]
    rw [← hn2]
    exact ⟨_, rfl, newRow_in (t := true) (by simp) (by omega) (by simp [cellsL, intR]), keeps_app _⟩
  simp [k14]
  by_cases k16 : kk = 16
  · subst k16
    obtain ⟨idi, offi, di, rfl, ei, i0, i1, -⟩ := slv_at hi (n := 2) (by rw [hil, if_neg (by omega)]; exact hx.two (by omega)) (by omega)
    replace i0 := cellAt_app i0 [Slot.live ⟨[iv 16, iv x.a, iv x.b, .slice A n c], true, true, 138, 4⟩]
    replace ei := rowEsz_keeps (keeps_app [Slot.live ⟨[iv 16, iv x.a, iv x.b, .slice A n c], true, true, 138, 4⟩]) ei
    obtain ⟨ids, offs, ds, rfl, es, s0, s1, -⟩ := slv_at hs (n := 1) (by simpa using hsl2) (by omega)
    replace s0 := cellAt_app s0 [Slot.live ⟨[iv 16, iv x.a, iv x.b, .slice A n c], true, true, 138, 4⟩]
    replace es := rowEsz_keeps (keeps_app [Slot.live ⟨[iv 16, iv x.a, iv x.b, .slice A n c], true, true, 138, 4⟩]) es
    have i1' := cellAt_app (i1 (by omega)) [Slot.live ⟨[iv 16, iv x.a, iv x.b, .slice A n c], true, true, 138, 4⟩]
    simp at ho2
    simp [ho2] at hn2
    simp [i0, i1', s0, ei, es]
    by_cases h0 : 0 < el i 1
    · simp [h0] at ho2
      simp [h0, i0, ei, ho2, fill1I]
      rw [← hn2]
      exact ⟨_, rfl, newRow_in (t := true) (by simp) (by omega) (by simp [cellsL, intR]), keeps_app _⟩
    · simp [h0] at ho2
      simp [h0, ho2, fill1I]
      rw [← hn2]
      exact ⟨_, rfl, newRow_in (t := true) (by simp) (by omega) (by simp [cellsL, intR]), keeps_app _⟩
  simp [k16]
  by_cases k17 : kk = 17
  · subst k17
    obtain ⟨idi, offi, di, rfl, ei, i0, i1, -⟩ := slv_at hi (n := 1) (by rw [hil, if_neg (by omega)]; exact hx.one (by omega)) (by omega)
    replace i0 := cellAt_app i0 [Slot.live ⟨[iv 17, iv x.a, iv x.b, .slice A n c], true, true, 138, 4⟩]
    replace ei := rowEsz_keeps (keeps_app [Slot.live ⟨[iv 17, iv x.a, iv x.b, .slice A n c], true, true, 138, 4⟩]) ei
    obtain ⟨ids, offs, ds, rfl, es, s0, s1, -⟩ := slv_at hs (n := s.length) (by rfl) (by have := hx.comb (by omega); simp at hsl2; omega)
    replace s0 := cellAt_app s0 [Slot.live ⟨[iv 17, iv x.a, iv x.b, .slice A n c], true, true, 138, 4⟩]
    replace es := rowEsz_keeps (keeps_app [Slot.live ⟨[iv 17, iv x.a, iv x.b, .slice A n c], true, true, 138, 4⟩]) es
    have hc2 := hx.comb (by omega)
    simp at ho2 hsl2 hn2
    have hgt : 0 < s.length := by omega
    simp
    refine awDraw_E 9 [[],[0],[1,0],[],[3],[],[5],[6,5],[4,3,7,6,5],[2,1,0,8,4,3,7,6,5],[9,2,1,0,8,4,3,7,6,5],[10,9,2,1,0,8,4,3,7,6,5]] (by kernel_rfl) (by kernel_rfl) ?_
    simp [i0, s0, ei, es, hgt]
    refine awCall_det' (Wrap_s _) (by first | omega | (simp <;> omega) | simp) ?_
    have eo : smp (IntKind.i64.wrap (el i 0 + IntKind.i64.wrap (x.a * el s 0))) = o := by
      rw [smp_wrap, ← ho2]
      refine smp_eq ?_
      rw [IntKind.wrap_i64]
      omega
    rw [eo]
    refine ⟨by omega, es, ?_⟩
    have hd := slv_drop (hs.app [Slot.live ⟨[iv 17, iv x.a, iv x.b, .slice A n c], true, true, 138, 4⟩]) (by omega)
    have htl : s.tail.length = s.length - 1 := by simp
    rw [List.drop_one] at hd
    refine awCall_det' (clone_x hd (by omega)) (by first | omega | (simp <;> omega) | simp) ?_
    simp only [fill1I, ow_some]
    subst hn2
    generalize hT : s.tail = tl at *
    simp
    refine append_new (M := M) (M1 := M ++ [Slot.live ⟨[iv 17, iv x.a, iv x.b, .slice A n c], true, true, 138, 4⟩] ++ [Slot.live (rowI tl)]) (l := tl) (a := o) (by simp) (by simp [fill1I]) ?_ ?_ ⟨_, _, _, rfl⟩ (by omega) (by omega) ?_
    · have := (rowI_acc (M := M ++ [Slot.live ⟨[iv 17, iv x.a, iv x.b, .slice A n c], true, true, 138, 4⟩]) (l := tl)).low (B' := M.length) (by simp)
      simpa using this
    · exact Same.trans' (Same.appS _ _) (Same.appB _ _)
    · intro r M' h1 h2
      try simp
      exact ⟨_, rfl, h1, h2⟩
  simp [k17]
  have hk : x.k = 1 ∨ x.k = 2 ∨ x.k = 3 ∨ x.k = 4 ∨ x.k = 5 ∨ x.k = 9 ∨ x.k = 10 ∨ x.k = 11 ∨ x.k = 13 ∨ x.k = 15 := by
    have := hx.kind
    omega
  obtain ⟨N, dN⟩ := output_i (M := M ++ [Slot.live ⟨[iv kk, iv x.a, iv x.b, .slice A n c], true, true, 138, 4⟩]) (us := [iv kk, iv x.a, iv x.b, .slice A n c]) (s := s) ⟨_, by rw [hkk], hu.app _⟩ ((ht (by omega)).app _) (hi.app _) hx htb (by rw [hkk]; exact hil) (by rw [hkk]; omega)
  rw [ho] at dN
  refine awCall_det' dN (by first | omega | (simp <;> omega) | simp) ?_
  simp
  refine awCall_det' (zeros_i 0 (by omega)) (by first | omega | (simp <;> omega) | simp) ?_
  have e0 : nx = [] := by
    have n1 : ¬ (kk = 7 ∨ kk = 16) := by omega
    rw [← hn2, if_neg k6, if_neg k17, if_neg n1, if_neg k8, if_neg k12, if_neg k14]
  subst e0
  simp
  exact ⟨_, rfl, newRow_in (t := true) rfl (by simp) (by simp), by simpa using (hbx kk rfl).app (N ++ [Slot.live ⟨cellsL intR (List.replicate 0 0), true, true, 2, 1⟩])⟩
end Go.Proofs.Ytimijeeihicohaa

namespace Go.Proofs.Ytimijeeihicohaa
open Go.RowKit
set_option linter.unusedVariables false
set_option linter.unusedSimpArgs false
set_option maxRecDepth 100000
attribute [local simp] List.getElem?_cons_zero
attribute [local irreducible] awCond awCall awLoop awDraw ow retQ retC resQ Keeps
def valR : RecV Value 1 := ⟨fun v => [v], fun _ => rfl⟩
theorem cellsL_valR (l : List Value) : cellsL valR l = l := by
  induction l with
  | nil => rfl
  | cons a l ih => rw [cellsL_cons, ih]; rfl
/-- A list of lists: the list's own row, and a row for each element. -/
def LLv (B : Nat) (M : Mem) (v : Value) (cs : List (List Int)) : Prop :=
  ∃ vs, Acc valR 46 B M v vs ∧ vs.length = cs.length ∧ ∀ k, k < cs.length → ∃ id, el vs k = .slice (some ⟨id, 0, none⟩) (el cs k).length (el cs k).length ∧ B ≤ id ∧ M[id]? = some (.live (rowI (el cs k))) ∧ Apart v id
theorem LLv.keeps {B : Nat} {M M' : Mem} {v : Value} {cs : List (List Int)} (h : LLv B M v cs) (hk : Keeps M M') : LLv B M' v cs := by
  obtain ⟨vs, h1, h2, h3⟩ := h
  refine ⟨vs, h1.keeps hk, h2, fun k hk' => ?_⟩
  obtain ⟨id, a, b, c, d⟩ := h3 k hk'
  exact ⟨id, a, b, hk.get c, d⟩
theorem LLv.low {B B' : Nat} {M : Mem} {v : Value} {cs : List (List Int)} (h : LLv B M v cs) (hb : B' ≤ B) : LLv B' M v cs := by
  obtain ⟨vs, h1, h2, h3⟩ := h
  refine ⟨vs, h1.low hb, h2, fun k hk' => ?_⟩
  obtain ⟨id, a, b, c, d⟩ := h3 k hk'
  exact ⟨id, a, by omega, c, d⟩
theorem LLv.nil {B : Nat} {M : Mem} : LLv B M (.slice none 0 0) [] := ⟨[], .nil, rfl, fun k hk => by simp at hk⟩
theorem rowI_rd {M : Mem} {id : Nat} {l : List Int} (h : M[id]? = some (.live (rowI l))) (hl : l.length ≤ 1048576) : SlV intP id (id + 1) M (.slice (some ⟨id, 0, none⟩) l.length l.length) l := by
  refine ⟨_, _, _, rfl, by omega, (fun h => by cases h), SlP.of_sl ⟨rfl, fun _ => ⟨id, 0, rfl, by simp [rowEsz, h, rowI], fun j y hy => by simpa [cellAt, h, rowI] using hy⟩⟩ fun a e _ => ?_⟩
  injection e with e
  subst e
  exact ⟨Nat.le_refl _, Nat.lt_succ_self _⟩
theorem LLv.slv {B : Nat} {M : Mem} {v : Value} {cs : List (List Int)} (h : LLv B M v cs) (hl : ∀ c, c ∈ cs → c.length ≤ 1048576) (hn : cs.length ≤ 1048576) : SlV tabP B M.length M v cs := by
  obtain ⟨vs, ⟨A, n, c, rfl, hvn, hA⟩, h2, h3⟩ := h
  rcases hA with ⟨rfl, rfl, rfl⟩ | ⟨id, t, rfl, hid, hr⟩
  · exact ⟨none, 0, 0, rfl, by omega, fun _ => rfl, by omega, fun h => by omega⟩
  · refine ⟨_, n, c, rfl, by omega, (fun h => by cases h), by omega, fun _ => ⟨id, 0, rfl, hid, (List.getElem?_eq_some_iff.1 hr).1, by simp [rowEsz, hr], fun i hi => ?_⟩⟩
    obtain ⟨jd, a, b, c, d⟩ := h3 i (by omega)
    refine ⟨[el vs i], ⟨_, rfl, ?_⟩, cl_cons.2 ⟨?_, cl_nil⟩⟩
    · rw [a]
      exact (rowI_rd c (hl _ (el_mem (by omega)))).wide b (by have := (List.getElem?_eq_some_iff.1 c).1; omega)
    · have : vs[i]? = some (el vs i) := el_some (by omega)
      simp [cellAt, hr, cellsL_valR, this]
theorem el_snoc_lt {α : Type} [Inhabited α] {l : List α} {a : α} {k : Nat} (h : k < l.length) : el (l ++ [a]) k = el l k := el_append_left h
theorem el_snoc_eq {α : Type} [Inhabited α] {l : List α} {a : α} : el (l ++ [a]) l.length = a := by rw [el_append_right (Nat.le_refl _), Nat.sub_self]; rfl
/-- One list more. -/
theorem LLv.push {B b : Nat} {M1 : Mem} {S : St} {v x : Value} {cs : List (List Int)} {c : List Int} {K : Value → Mem → Prop} (h : LLv B M1 v cs) (hb : b ≤ B) (hB : B ≤ M1.length) (hM : S.M = M1 ++ [Slot.live (rowI c)] ++ [Slot.live ⟨[.slice (some ⟨M1.length, 0, none⟩) c.length c.length], true, true, 46, 1⟩]) (hx : x = .slice (some ⟨M1.length + 1, 0, none⟩) 1 1) (hn : cs.length ≤ 1048576)
    (hK : ∀ v' M', LLv B M' v' (cs ++ [c]) → Same B M1 M' → (∀ (i : Nat) s, Apart v i → M1[i]? = some s → M'[i]? = some s ∧ Apart v' i) → K v' M') : appendK Try.prog b S K 44 44 v x := by
  obtain ⟨vs, h1, h2, h3⟩ := h
  subst hx
  have hkp : Keeps M1 S.M := by rw [hM, List.append_assoc]; exact keeps_app _
  have hap : ∀ id, M1.length ≤ id → Apart v id := fun id hi => h1.apart hi
  refine (h1.keeps hkp).append2 (P := Try.prog) (by_ := 24) (a := .slice (some ⟨M1.length, 0, none⟩) c.length c.length) hb (by rw [hM]; simp; omega) (by omega) (by simp) (by kernel_rfl) ?_ (by simp [valR]; rfl) (by omega) (by unfold maxLen; omega) fun v' M' a b d => ?_
  · rw [hM]
    have e : (M1 ++ [Slot.live (rowI c)] ++ [Slot.live ⟨[.slice (some ⟨M1.length, 0, none⟩) c.length c.length], true, true, 46, 1⟩])[M1.length + 1]? = some (Slot.live ⟨[.slice (some ⟨M1.length, 0, none⟩) c.length c.length], true, true, 46, 1⟩) := by simp
    simp [srcOf, cellsAt, valR]
  · refine hK v' M' ⟨vs ++ [.slice (some ⟨M1.length, 0, none⟩) c.length c.length], a, by simp [h2], fun k hk => ?_⟩ ⟨Nat.le_trans hkp.len b.1, fun i s hi hs => b.2 i s hi (hkp.get hs)⟩ fun i s hv hs => d i s hv (hkp.get hs)
    simp at hk
    by_cases hlt : k < cs.length
    · obtain ⟨id, e1, e2, e3, e4⟩ := h3 k hlt
      obtain ⟨f1, f2⟩ := d id _ e4 (hkp.get e3)
      rw [el_snoc_lt (by omega), el_snoc_lt (by omega)]
      exact ⟨id, e1, e2, f1, f2⟩
    · obtain rfl : k = cs.length := by omega
      have hr : S.M[M1.length]? = some (.live (rowI c)) := by rw [hM]; simp
      obtain ⟨f1, f2⟩ := d M1.length _ (hap _ (Nat.le_refl _)) hr
      rw [el_snoc_eq, show cs.length = vs.length from h2.symm, el_snoc_eq]
      exact ⟨M1.length, rfl, hB, f1, f2⟩
end Go.Proofs.Ytimijeeihicohaa
