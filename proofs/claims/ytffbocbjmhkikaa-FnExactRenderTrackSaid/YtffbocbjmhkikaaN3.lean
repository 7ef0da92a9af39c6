/- Lists of numbers, and lists of them: the laws' helpers. No conditions. -/
import Derived.Test.YtffbocbjmhkikaaB0
import Derived.Test.YtffbocbjmhkikaaLA
import Derived.Test.YtffbocbjmhkikaaN1
namespace Go.Proofs.Ytffbocbjmhkikaa
open Go.RowKit
set_option linter.unusedVariables false
set_option linter.unusedSimpArgs false
set_option maxRecDepth 100000
attribute [local simp] List.getElem?_cons_zero
attribute [local irreducible] awCond awCall awLoop awDraw ow retQ retC resQ Keeps
theorem int_cell {M : Mem} {id off : Nat} {x : Int} (h : Cl M id off (intR.row x)) : cellAt M id off = some (iv x) := h 0 _ rfl
theorem chain {S : Nat → Mem → Mem → Prop} {I : Nat → Mem → Prop} {n : Nat} {M0 : Mem} (h0 : I 0 M0) (hs : ∀ k M, k < n → I k M → ∃ M', S k M M' ∧ I (k + 1) M') :
    ∃ f : Nat → Mem, f 0 = M0 ∧ (∀ k, k ≤ n → I k (f k)) ∧ ∀ k, k < n → S k (f k) (f (k + 1)) := by
  classical
  let f : Nat → Mem := fun k => Nat.rec M0 (fun k M => if h : k < n ∧ I k M then Classical.choose (hs k M h.1 h.2) else M) k
  have fs : ∀ k, f (k + 1) = if h : k < n ∧ I k (f k) then Classical.choose (hs k (f k) h.1 h.2) else f k := fun k => rfl
  have hI : ∀ k, k ≤ n → I k (f k) := by
    intro k
    induction k with
    | zero => exact fun _ => h0
    | succ k ih =>
      intro hk
      have h := ih (by omega)
      rw [fs, dif_pos ⟨by omega, h⟩]
      exact (Classical.choose_spec (hs k (f k) (by omega) h)).2
  refine ⟨f, rfl, hI, fun k hk => ?_⟩
  have h := hI k (by omega)
  rw [fs, dif_pos ⟨hk, h⟩]
  exact (Classical.choose_spec (hs k (f k) hk h)).1
def one1 : List Value → Value
  | v :: _ => v
  | [] => undef
@[simp] theorem one1_cons {v : Value} {vs : List Value} : one1 (v :: vs) = v := (rfl)
def sumW {α : Type} (f : α → Nat) (l : List α) (k : Nat) : Nat := ((l.take k).map f).sum
theorem sumW_zero {α : Type} (f : α → Nat) (l : List α) : sumW f l 0 = 0 := by simp [sumW]
theorem sumW_succ {α : Type} [Inhabited α] (f : α → Nat) {l : List α} {k : Nat} (hk : k < l.length) : sumW f l (k + 1) = sumW f l k + f (el l k) := by
  unfold sumW; rw [take_el hk, List.map_append, List.sum_append]; simp
theorem sumW_le {α : Type} (f : α → Nat) (l : List α) (k : Nat) : sumW f l k ≤ sumW f l l.length := by
  unfold sumW
  rw [List.take_length]
  conv => rhs; rw [← List.take_append_drop k l]
  rw [List.map_append, List.sum_append]; omega
theorem sumW_mem {α : Type} [Inhabited α] (f : α → Nat) {l : List α} {x : α} (hx : x ∈ l) : f x ≤ sumW f l l.length := by
  obtain ⟨i, hi, rfl⟩ := List.getElem_of_mem hx
  rw [el_eq hi]
  have := sumW_succ f hi
  have := sumW_le f l (i + 1)
  omega
def wtInt64S (l : List Int) : Nat := l.length
theorem szInt64S_a {M : Mem} {A : Option Addr} {n c : Nat} (z : Int) (hz : 0 ≤ z) (hz1 : z ≤ 1048576) (hn : n ≤ 9223372036854775807) : Det Try.prog M.length 47 [.slice A n c, iv z] M (iv (if z - n < 0 then -1 else z - n)) M := by
  first | (refine det_fn Try.func47 rfl Try.ntmps47 Try.results47 rfl rfl rfl (by simp) ?_) | (refine det_fnC Try.func47 rfl Try.ntmps47 Try.results47 rfl rfl (by simp) ?_)
  simp (disch := omega) [wrap_in]
  refine awCond_split ?_ ?_ <;> intro h
  · simp at h
    simp [h, Keeps.refl]
    try omega
  · simp at h
    simp [h, Keeps.refl]
    try omega
theorem toInt64S_d {M : Mem} {A : Option Addr} {n c : Nat} {l : List Int} (h : Sl intR M A n l) (hn : n ≤ 1099511627776) : Det Try.prog M.length 53 [.slice A n c] M (.slice (some ⟨M.length, 0, none⟩) n n) (M ++ [.live ⟨cellsL intR l, true, true, 2, 1⟩]) := by
  have hl := h.1
  refine Ctr.det ?_
  first | (refine ctr_fn Try.func53 rfl Try.ntmps53 Try.results53 rfl rfl (by simp) ?_) | (refine ctr_fnC Try.func53 rfl Try.ntmps53 Try.results53 rfl (by simp) ?_)
  simp
  refine ⟨by omega, ?_⟩
  refine awLoop_T (fun m T M' => ∃ k : Nat, k + m = n ∧ M' = M ++ [.live ⟨cellsL intR (l.take k) ++ zrow [iv 0] m, true, true, 2, 1⟩] ∧ look T 4 = some (iv k) ∧ look T 0 = some (.slice A n c) ∧ look T 3 = some (.slice (some ⟨M.length, 0, none⟩) n n)) n ⟨0, by omega, by simp [cellsL_nil], by simp, by simp, by simp⟩ ?_
  rintro m T M' ⟨k, hm, rfl, h4, h0, h3⟩
  by_cases hlt : k < n
  · obtain ⟨id, off, rfl, he, hc⟩ := h.at_ hlt
    have hc' := int_cell (hc.app [.live ⟨cellsL intR (l.take k) ++ zrow [iv 0] m, true, true, 2, 1⟩])
    have he' := rowEsz_keeps (keeps_app [.live ⟨cellsL intR (l.take k) ++ zrow [iv 0] m, true, true, 2, 1⟩]) he
    simp only [Nat.mul_one] at hc'
    obtain ⟨m, rfl⟩ : ∃ m', m = m' + 1 := ⟨m - 1, by omega⟩
    have hp := putCells_rec intR (b := M.length) (M := M) (xs := l.take k) (m := m) (z := [iv 0]) (a := el l k) (t := true) (e := 2) (Nat.le_refl _) rfl (List.length_take_of_le (by omega)) rfl
    simp only [Nat.mul_one] at hp
    replace hp : putCells M.length (M ++ [.live ⟨cellsL intR (l.take k) ++ zrow [iv 0] (m + 1), true, true, 2, 1⟩]) M.length k [iv (el l k)] = _ := hp
    simp (disch := omega) [h3, h4, h0, hlt, wrap_in, hc', he', -putCells_new0, hp]
    refine lpI m (by omega) ?_
    refine ⟨k + 1, by omega, by rw [take_el (by omega)], by simp, by simp [h0], by simp [h3]⟩
  · obtain rfl : k = n := by omega
    obtain rfl : m = 0 := by omega
    simp [h3, h4, h0, List.take_of_length_le (Nat.le_of_eq hl)]
theorem toInt64S_x {M : Mem} {lo hi : Nat} {u : Value} {l : List Int} (h : SlV intP lo hi M u l) (hn : l.length ≤ 1048576) : ∃ v N, Det Try.prog M.length 53 [u] M v (M ++ N) ∧ SlV intP M.length (M ++ N).length (M ++ N) v l := by
  obtain ⟨A, n, c, rfl, h1, h2, h3⟩ := h
  have hl := h3.1
  refine ⟨_, _, toInt64S_d h3.sl (by omega), _, n, n, rfl, h1, (fun h => by cases h), SlP.of_sl ⟨hl, fun _ => ⟨M.length, 0, rfl, by simp [rowEsz], fun j x hx => by simp [cellAt, hx]⟩⟩ fun a e _ => ?_⟩
  injection e with e
  subst e
  exact ⟨Nat.le_refl _, by simp⟩
theorem eqInt64S_a {M : Mem} {A B : Option Addr} {n c m d : Nat} {x y : List Int} (hx : Sl intR M A n x) (hy : Sl intR M B m y) (hn : n ≤ 9223372036854775807) : Det Try.prog M.length 25 [.slice A n c, .slice B m d] M (.bool (decide (x = y))) M := by
  have hlx := hx.1
  have hly := hy.1
  first | (refine det_fn Try.func25 rfl Try.ntmps25 Try.results25 rfl rfl rfl (by simp) ?_) | (refine det_fnC Try.func25 rfl Try.ntmps25 Try.results25 rfl rfl (by simp) ?_)
  simp
  refine awCond_split ?_ ?_ <;> intro hnm
  · simp at hnm
    simp
    exact ⟨fun e => by subst e; omega, Keeps.refl _⟩
  · simp at hnm
    obtain rfl : n = m := by omega
    simp
    refine awLoop_T (fun m T M' => ∃ k : Nat, k + m = n ∧ M' = M ∧ look T 5 = some (iv k) ∧ look T 0 = some (.slice A n c) ∧ look T 1 = some (.slice B n d) ∧ x.take k = y.take k) n ⟨0, by omega, rfl, by simp, by simp, by simp, by simp⟩ ?_
    rintro m T M' ⟨k, hm, rfl, h4, h0, h1, hk⟩
    by_cases hlt : k < n
    · obtain ⟨id, off, rfl, he, hc⟩ := hx.at_ hlt
      obtain ⟨id', off', rfl, he', hc'⟩ := hy.at_ hlt
      have c1 := int_cell hc
      have c2 := int_cell hc'
      simp only [Nat.mul_one] at c1 c2
      simp (disch := omega) [h4, h0, h1, hlt, wrap_in]
      refine awDraw_E 8 [[],[],[0,1],[2,0,1],[],[],[4,5],[6,4,5],[3,2,0,1,7,6,4,5]] (by kernel_rfl) (by kernel_rfl) ?_
      simp (disch := omega) [h4, h0, h1, hlt, wrap_in, c1, c2, he, he']
      by_cases hxy : el x k = el y k
      · simp (disch := omega) [hxy, h4, h0, h1, wrap_in]
        refine lpI (m - 1) (by omega) ?_
        exact ⟨k + 1, by omega, rfl, by simp, by simp [h0], by simp [h1], by rw [take_el (by omega), take_el (by omega), hk, hxy]⟩
      · simp [hxy]
        exact ⟨fun e => hxy (by rw [e]), Keeps.refl _⟩
    · obtain rfl : k = n := by omega
      rw [List.take_of_length_le (by omega), List.take_of_length_le (by omega)] at hk
      simp [h4, h0, h1, hk, Keeps.refl]
theorem eqInt64S_x {M : Mem} {lo hi lo' hi' : Nat} {u v : Value} {x y : List Int} (h : SlV intP lo hi M u x) (h' : SlV intP lo' hi' M v y) : Det Try.prog M.length 25 [u, v] M (.bool (decide (x = y))) M := by
  obtain ⟨A, n, c, rfl, h1, h2, h3⟩ := h
  obtain ⟨B, m, d, rfl, g1, g2, g3⟩ := h'
  exact eqInt64S_a h3.sl g3.sl h1
theorem szInt64S_x {M : Mem} {lo hi : Nat} {u : Value} {l : List Int} {z : Int} (h : SlV intP lo hi M u l) (hz : 0 ≤ z) (hz1 : z ≤ 1048576) : Det Try.prog M.length 47 [u, iv z] M (iv (if z - wtInt64S l < 0 then -1 else z - wtInt64S l)) M := by
  obtain ⟨A, n, c, rfl, h1, h2, h3⟩ := h
  rw [show wtInt64S l = n from h3.1]
  exact szInt64S_a z hz hz1 h1
end Go.Proofs.Ytffbocbjmhkikaa
