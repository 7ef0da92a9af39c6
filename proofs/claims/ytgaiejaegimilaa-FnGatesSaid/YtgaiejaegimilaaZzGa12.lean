/- Parts of the proof, together: Fractions as rational numbers; positions grow with beats. The order of notes; the reference sorts notes. The reference sorts notes. Scores that are drawn. Notes that overlap: the reference's test. Scores and tempo maps out of codes. Positions and samples grow with beats. Tempo maps: the program's position of a beat. No conditions. -/
import Derived.Test.YtgaiejaegimilaaZzGa11
import Derived.Test.YtgaiejaegimilaaZzGa7
import Derived.Test.YtgaiejaegimilaaZzGa10
namespace Go.Proofs.Ytgaiejaegimilaa
open Go.RowKit
set_option linter.unusedVariables false
set_option linter.unusedSimpArgs false
set_option maxRecDepth 100000
attribute [local simp] List.getElem?_cons_zero
attribute [local irreducible] awCond awCall awLoop awDraw ow retQ retC resQ Keeps
def Frac.q (f : Frac) : Rat := Rat.divInt f.n f.d
theorem divInt_gcd {n d : Int} {g : Nat} (hg : 0 < g) (hn : (g : Int) ∣ n) (hd : (g : Int) ∣ d) : Rat.divInt (n / g) (d / g) = Rat.divInt n d := by
  obtain ⟨a, rfl⟩ := hn
  obtain ⟨b, rfl⟩ := hd
  have hg' : (g : Int) ≠ 0 := by omega
  rw [Int.mul_ediv_cancel_left _ hg', Int.mul_ediv_cancel_left _ hg', Rat.divInt_mul_left hg']
theorem divInt_le {a b c d : Int} (hb : 0 < b) (hd : 0 < d) : Rat.divInt a b ≤ Rat.divInt c d ↔ a * d ≤ c * b := by
  rw [Rat.le_iff_sub_nonneg, Rat.divInt_sub_divInt _ _ (by omega) (by omega), Rat.divInt_nonneg_iff_of_pos_right (Int.mul_pos hd hb)]
  constructor <;> intro h <;> omega
theorem cmpF_q {a b : Frac} (ha : 1 ≤ a.d) (hb : 1 ≤ b.d) : cmpF a b ≤ 0 ↔ a.q ≤ b.q := by
  rw [cmpF_le]
  exact (divInt_le (by omega) (by omega)).symm
theorem floor_q {f : Frac} (h : 0 < f.d) : f.q.floor = f.n / f.d := by
  have key : ∀ x : Int, x ≤ f.q.floor ↔ x ≤ f.n / f.d := by
    intro x
    have e : (x : Rat) = Rat.divInt x 1 := by rw [Rat.divInt_eq_div]; simp [Rat.div_def]; grind
    rw [Rat.le_floor_iff, e]
    unfold Frac.q
    rw [divInt_le (by omega) h, Int.le_ediv_iff_mul_le h, Int.mul_one]
  have h1 := (key _).1 (Int.le_refl _)
  have h2 := (key _).2 (Int.le_refl _)
  omega
theorem mkF_q {n d : Int} (hd : 0 < d) (h : (mkF n d).2 = 0) : (mkF n d).1.q = Rat.divInt n d := by
  unfold mkF at h ⊢
  rw [if_neg (by omega)] at h ⊢
  split at h
  · cases h
  · rename_i hx
    rw [if_neg hx]
    clear h hx
    have hg : 0 < n.natAbs.gcd d.natAbs := Nat.gcd_pos_of_pos_right _ (by omega)
    generalize hgg : n.natAbs.gcd d.natAbs = g at hg
    obtain ⟨a, ha⟩ : g ∣ n.natAbs := by rw [← hgg]; exact Nat.gcd_dvd_left _ _
    obtain ⟨b, hb⟩ : g ∣ d.natAbs := by rw [← hgg]; exact Nat.gcd_dvd_right _ _
    rw [ha, hb, Nat.mul_div_cancel_left _ hg, Nat.mul_div_cancel_left _ hg]
    have hg' : (g : Int) ≠ 0 := by omega
    have ed : d = (g : Int) * b := by rw [← Int.natCast_mul, ← hb]; omega
    have hdn : ¬ d < 0 := by omega
    by_cases hn : n < 0
    · have en : n = (g : Int) * -(a : Int) := by rw [Int.mul_neg, ← Int.natCast_mul, ← ha]; omega
      simp only [hn, hdn, decide_true, decide_false]
      show Rat.divInt (-(a : Int)) b = _
      rw [en, ed, Rat.divInt_mul_left hg']
    · have en : n = (g : Int) * (a : Int) := by rw [← Int.natCast_mul, ← ha]; omega
      simp only [hn, hdn, decide_false]
      show Rat.divInt (a : Int) b = _
      rw [en, ed, Rat.divInt_mul_left hg']
theorem addF_q {a b : Frac} (ha : fracB a = true) (hb : fracB b = true) (h : (addF a b).2 = 0) : (addF a b).1.q = a.q + b.q := by
  obtain ⟨a1, -⟩ := fracB_iff.1 ha
  obtain ⟨b1, -⟩ := fracB_iff.1 hb
  have hd : 0 < a.d * b.d := Int.mul_pos (by omega) (by omega)
  unfold addF at h ⊢
  rw [if_pos ⟨ha, hb⟩] at h ⊢
  rw [mkF_q hd h]
  exact (Rat.divInt_add_divInt a.n b.n (by omega) (by omega)).symm
theorem subF_q {a b : Frac} (ha : fracB a = true) (hb : fracB b = true) (h : (subF a b).2 = 0) : (subF a b).1.q = a.q - b.q := by
  obtain ⟨a1, -⟩ := fracB_iff.1 ha
  obtain ⟨b1, -⟩ := fracB_iff.1 hb
  have hd : 0 < a.d * b.d := Int.mul_pos (by omega) (by omega)
  unfold subF at h ⊢
  rw [if_pos ⟨ha, hb⟩] at h ⊢
  rw [mkF_q hd h]
  exact (Rat.divInt_sub_divInt a.n b.n (by omega) (by omega)).symm
theorem mulF_q {a b : Frac} (ha : fracB a = true) (hb : fracB b = true) (h : (mulF a b).2 = 0) : (mulF a b).1.q = a.q * b.q := by
  obtain ⟨a1, -⟩ := fracB_iff.1 ha
  obtain ⟨b1, -⟩ := fracB_iff.1 hb
  have hd : 0 < a.d * b.d := Int.mul_pos (by omega) (by omega)
  unfold mulF at h ⊢
  rw [if_pos ⟨ha, hb⟩] at h ⊢
  rw [mkF_q hd h]
  exact (Rat.divInt_mul_divInt a.n b.n).symm
theorem onF_q {frm beat at_ : Frac} {s : Int} (h1 : fracB frm = true) (h2 : fracB beat = true) (h3 : fracB at_ = true) (hs : 1 ≤ s ∧ s ≤ 1000) (h : (onF frm beat s at_).2 = 0) : (onF frm beat s at_).1.q = at_.q + (beat.q - frm.q) * s := by
  unfold onF at h ⊢
  split at h
  · rename_i h'; exact absurd h h'
  · rename_i h'
    rw [if_neg h']
    have e1 := subF_q h2 h1 (by omega)
    have f1 := subF_ok (a := beat) (b := frm) (by omega)
    have hw := whole_ok (n := s) (by omega) (by omega)
    split at h
    · rename_i h''; exact absurd h h''
    · rename_i h''
      rw [if_neg h'']
      rw [addF_q h3 (mulF_ok (by omega)) h, mulF_q f1 hw (by omega), e1]
      congr 2
      show Rat.divInt s 1 = s
      rw [Rat.divInt_eq_div]
      simp [Rat.div_def]
      grind
end Go.Proofs.Ytgaiejaegimilaa

namespace Go.Proofs.Ytgaiejaegimilaa
open Go.RowKit
set_option linter.unusedVariables false
set_option linter.unusedSimpArgs false
set_option maxRecDepth 100000
attribute [local simp] List.getElem?_cons_zero
attribute [local irreducible] awCond awCall awLoop awDraw ow retQ retC resQ Keeps
theorem cmpF_neg (a b : Frac) : cmpF b a = -cmpF a b := by
  unfold cmpF
  repeat' split
  all_goals omega
theorem note_den {n : Note} (h : noteB n = true) : 1 ≤ n.at_.d := (fracB_iff.1 (beatB_iff.1 (noteB_iff.1 h).1).1).1.1
theorem ordN_le {a b : Note} (ha : noteB a = true) (hb : noteB b = true) : ordN a b ≤ 0 ↔ a.at_.q < b.at_.q ∨ (a.at_.q = b.at_.q ∧ (a.o < b.o ∨ (a.o = b.o ∧ a.k ≤ b.k))) := by
  have h1 := cmpF_q (note_den ha) (note_den hb)
  have h2 := cmpF_q (note_den hb) (note_den ha)
  rw [cmpF_neg] at h2
  unfold ordN
  by_cases hz : cmpF a.at_ b.at_ = 0
  · have e : a.at_.q = b.at_.q := Rat.le_antisymm (h1.1 (by omega)) (h2.1 (by omega))
    rw [if_neg (by omega)]
    have : ¬ a.at_.q < b.at_.q := by rw [e]; exact Rat.lt_irrefl
    split <;> constructor <;> intro h
    · exact .inr ⟨e, by omega⟩
    · rcases h with h | ⟨-, h⟩
      · exact absurd h this
      · omega
    · exact .inr ⟨e, by omega⟩
    · rcases h with h | ⟨-, h⟩
      · exact absurd h this
      · omega
  · rw [if_pos hz]
    constructor
    · intro h
      left
      have : ¬ b.at_.q ≤ a.at_.q := fun hh => by have := h2.2 hh; omega
      exact Rat.not_le.1 this
    · rintro (h | ⟨e, -⟩)
      · exact h1.2 (Rat.le_of_lt h)
      · have e1 := h1.2 (by rw [e]; exact Rat.le_refl)
        have e2 := h2.2 (by rw [e]; exact Rat.le_refl)
        omega
theorem ordN_neg (a b : Note) : ordN b a = -ordN a b := by
  have := cmpF_neg a.at_ b.at_
  unfold ordN
  repeat' split
  all_goals omega
theorem ordN_trans {a b c : Note} (ha : noteB a = true) (hb : noteB b = true) (hc : noteB c = true) (h1 : ordN a b ≤ 0) (h2 : ordN b c ≤ 0) : ordN a c ≤ 0 := by
  rw [ordN_le ha hb] at h1
  rw [ordN_le hb hc] at h2
  rw [ordN_le ha hc]
  generalize a.at_.q = x at *
  generalize b.at_.q = y at *
  generalize c.at_.q = z at *
  rcases h1 with h1 | ⟨rfl, h1⟩ <;> rcases h2 with h2 | ⟨rfl, h2⟩
  · left; grind
  · exact .inl h1
  · exact .inl h2
  · exact .inr ⟨rfl, by omega⟩
/-- In order up to i. -/
def SortTo (l : List Note) (i : Nat) : Prop := ∀ a b, a < b → b < i → ordN (el l a) (el l b) ≤ 0
/-- In order up to i, but for the one at k, which may be too far behind. -/
def SortIn (l : List Note) (i k : Nat) : Prop := ∀ a b, a < b → b ≤ i → b ≠ k → ordN (el l a) (el l b) ≤ 0
theorem SortTo.in_ {l : List Note} {i : Nat} (h : SortTo l i) : SortIn l i i := fun a b h1 h2 h3 => h a b h1 (by omega)
theorem elSet_ne {α : Type} [Inhabited α] {l : List α} {j q : Nat} {x : α} (h : j ≠ q) : el (l.set j x) q = el l q := by simp [el, List.getElem?_set_ne h]
theorem elSet_eq {α : Type} [Inhabited α] {l : List α} {j : Nat} {x : α} (h : j < l.length) : el (l.set j x) j = x := by simp [el, h]
def swapL {α : Type} [Inhabited α] (l : List α) (i j : Nat) : List α := (l.set i (el l j)).set j (el l i)
theorem SortIn.step {l : List Note} {i k : Nat} (h : SortIn l i (k + 1)) (hk : k + 1 ≤ i) (hi : i < l.length) (ho : ordN (el l (k + 1)) (el l k) < 0) : SortIn (swapL l (k + 1) k) i k := by
  have e1 : el (swapL l (k + 1) k) k = el l (k + 1) := elSet_eq (by simp; omega)
  have e2 : el (swapL l (k + 1) k) (k + 1) = el l k := by rw [swapL, elSet_ne (by omega), elSet_eq (by omega)]
  have e3 : ∀ q, q ≠ k → q ≠ k + 1 → el (swapL l (k + 1) k) q = el l q := fun q h1 h2 => by rw [swapL, elSet_ne (Ne.symm h1), elSet_ne (Ne.symm h2)]
  intro a b hab hb hbk
  by_cases b1 : b = k + 1
  · subst b1
    rw [e2]
    by_cases a1 : a = k
    · subst a1; rw [e1]; omega
    · rw [e3 a a1 (by omega)]; exact h a k (by omega) (by omega) (by omega)
  · rw [e3 b hbk b1]
    by_cases a1 : a = k
    · subst a1; rw [e1]; exact h (a + 1) b (by omega) hb b1
    · by_cases a2 : a = k + 1
      · subst a2; rw [e2]; exact h k b (by omega) hb b1
      · rw [e3 a a1 a2]; exact h a b hab hb b1
theorem SortIn.done {l : List Note} {i k : Nat} (h : SortIn l i k) (hk : k ≤ i) (hi : i < l.length) (hv : ∀ n, n ∈ l → noteB n = true) (ho : 0 < k → ¬ ordN (el l k) (el l (k - 1)) < 0) : SortTo l (i + 1) := by
  intro a b hab hb
  by_cases b1 : b = k
  · subst b1
    have h1 := ho (by omega)
    rw [ordN_neg] at h1
    by_cases a1 : a = b - 1
    · subst a1; omega
    · exact ordN_trans (hv _ (el_mem (by omega))) (hv _ (el_mem (l := l) (i := b - 1) (by omega))) (hv _ (el_mem (by omega))) (h a (b - 1) (by omega) (by omega) (by omega)) (by omega)
  · exact h a b hab (by omega) b1
theorem swapL_perm {α : Type} [Inhabited α] {l : List α} {i j : Nat} (hi : i < l.length) (hj : j < l.length) : (swapL l i j).Perm l := by
  unfold swapL
  rw [← el_eq hi, ← el_eq hj]
  exact List.set_set_perm hi hj
/-- The list lies in a row of its own. -/
theorem Acc.put {α : Type} {k : Nat} [Inhabited α] {R : RecV α k} {e : TypeId} {B b : Nat} {M : Mem} {A : Option Addr} {n c : Nat} {l : List α} (h : Acc R e B M (.slice A n c) l) (hb : b ≤ B) (h0 : 0 < l.length) :
    ∃ id, A = some ⟨id, 0, none⟩ ∧ B ≤ id ∧ rowEsz M id = some k ∧ (∀ (i j : Nat) x, i < l.length → (R.row (el l i))[j]? = some x → cellAt M id (i * k + j) = some x) ∧
      ∀ (i : Nat) (a : α), i < l.length → (R.row a).all oneV = true → ∃ M', putCells b M id (i * k) (R.row a) = some M' ∧ Acc R e B M' (.slice A n c) (l.set i a) ∧ M'.length = M.length ∧ ∀ (q : Nat) s, q ≠ id → M[q]? = some s → M'[q]? = some s := by
  obtain ⟨A', n', c', he, hl, hA⟩ := h
  injection he with h1 h2 h3
  subst h1; subst h2; subst h3
  rcases hA with ⟨rfl, h1, rfl⟩ | ⟨id, t, rfl, hid, hr⟩
  · omega
  refine ⟨id, rfl, hid, by simp [rowEsz, hr], fun i j x hi hx => ?_, fun i a hi h1 => ⟨_, put_rec hr (by omega) hi rfl h1, ⟨_, _, _, rfl, by simp [hl], .inr ⟨id, t, rfl, hid, set_get (List.getElem?_eq_some_iff.1 hr).1⟩⟩, by simp, fun q s hq hs => by rw [List.getElem?_set_ne (Ne.symm hq)]; exact hs⟩⟩
  have hj : j < k := by have := (List.getElem?_eq_some_iff.1 hx).1; rwa [R.len] at this
  rw [cell_hr hr]
  show (cellsL R l)[i * k + j]? = some x
  rw [cellsL_get R hi hj]
  exact hx
end Go.Proofs.Ytgaiejaegimilaa

namespace Go.Proofs.Ytgaiejaegimilaa
open Go.RowKit
set_option linter.unusedVariables false
set_option linter.unusedSimpArgs false
set_option maxRecDepth 100000
attribute [local simp] List.getElem?_cons_zero
attribute [local irreducible] awCond awCall awLoop awDraw ow retQ retC resQ Keeps
theorem note_one (l : List Note) : (cellsL noteR l).all (fun u => u.oneCell') = true := by
  induction l with
  | nil => rfl
  | cons a l ih => rw [cellsL_cons, List.all_append, ih]; rfl
theorem nil_src {P : Program} {M : Mem} {k : Nat} {tx e : TypeId} {c : Nat} {A : Option Addr} (h : P.underlying tx = some (.slice e)) (hc : A = none → c = 0) : srcOf P M k tx (.slice A 0 c) = some (0, []) := by
  cases A
  · simp [srcOf, h, hc rfl]
  · simp [srcOf, h]
theorem note_src {M : Mem} {A : Option Addr} {n c : Nat} {l : List Note} (h : Sl noteR M A n l) (hc : A = none → c = 0) : srcOf Try.prog M 7 28 (.slice A n c) = some (l.length, cellsL noteR l) := by
  have hl := h.1
  rcases A with _ | ad
  · have h0 : n = 0 := by
      rcases Nat.eq_zero_or_pos n with e | e
      · exact e
      · obtain ⟨_, _, e', _⟩ := h.2 e
        cases e'
    subst h0
    rw [nil_src Try.underlying28 hc, List.eq_nil_of_length_eq_zero hl]
    rfl
  · exact h.src (by omega) ⟨_, Try.underlying28⟩
def InnS (B : Nat) (n i : Nat) (l : List Note) (v : Value) (M0 M : Mem) (l' : List Note) (k : Nat) : Prop :=
  Acc noteR 62 B M v l' ∧ l'.Perm l ∧ SortIn l' i k ∧ k ≤ i ∧ Keeps M0 M
set_option maxHeartbeats 2000000 in
theorem l18Sort_a {M : Mem} {A : Option Addr} {n c : Nat} {l : List Note} (h : Sl noteR M A n l) (hn : n ≤ 100000) (hc : A = none → c = 0) (hv : ∀ x, x ∈ l → noteB x = true) :
    Ctr Try.prog M.length 107 [.slice A n c] M fun r M' => ∃ l', Acc noteR 62 M.length M' r l' ∧ l'.Perm l ∧ SortTo l' l'.length ∧ Keeps M M' := by
  have hl := h.1
  first | (refine ctr_fn Try.func107 rfl Try.ntmps107 Try.results107 rfl rfl (by simp) ?_) | (refine ctr_fnC Try.func107 rfl Try.ntmps107 Try.results107 rfl (by simp) ?_)
  simp
  have hA0 : Acc noteR 62 M.length (M ++ [Slot.live ⟨[], true, true, 62, 7⟩]) (.slice (some ⟨M.length, 0, none⟩) 0 0) [] := ⟨_, 0, 0, rfl, rfl, .inr ⟨M.length, true, rfl, Nat.le_refl _, by simp [cellsL]⟩⟩
  refine hA0.extend (ls := l) (by_ := 56) (Nat.le_refl _) (by simp) (by simp) (by kernel_rfl) (note_src (h.app _) hc) (note_one _) (by simp; omega) (by unfold maxLen; simp; omega) ?_
  intro v M1 hA hS
  have k1 : Keeps M M1 := hS.keeps (keeps_app _) (Nat.le_refl _)
  simp only [List.nil_append] at hA
  have hl1 := k1.len
  try simp
  refine awLoop_T (fun m T M' => ∃ (l' : List Note) (i : Nat), (i + m = n ∨ (m = 0 ∧ n ≤ i)) ∧ Acc noteR 62 M.length M' v l' ∧ l'.Perm l ∧ SortTo l' i ∧ Keeps M M' ∧ look T 4 = some (iv i) ∧ look T 3 = some v) (n - 1)
    ⟨l, 1, by omega, hA, .refl _, fun a b h1 h2 => by omega, k1, by simp, by simp⟩ ?_
  rintro m T M2 ⟨l', i, hm, hA2, hp, hs, k2, t4, t3⟩
  have hpl := hp.length_eq
  obtain ⟨A2, n2, c2, rfl, hq, hsl, -⟩ := hA2.sl
  by_cases hlt : i < n
  · have e1 : (i : Int) < n2 := by omega
    simp (disch := omega) [t4, t3, e1]
    refine awLoop_T (fun m T M' => ∃ (l2 : List Note), Acc noteR 62 M.length M' (.slice A2 n2 c2) l2 ∧ l2.Perm l ∧ SortIn l2 i m ∧ m ≤ i ∧ Keeps M M' ∧ look T 5 = some (iv m) ∧ look T 4 = some (iv i) ∧ look T 3 = some (.slice A2 n2 c2)) i
      ⟨l', hA2, hp, hs.in_, Nat.le_refl _, k2, by simp, by simp [t4], by simp [t3]⟩ ?_
    rintro k T M3 ⟨l2, hA3, hp3, hs3, hki, k3, t5, t4, t3⟩
    have hpl3 := hp3.length_eq
    have hv3 : ∀ x, x ∈ l2 → noteB x = true := fun x hx => hv x (hp3.mem_iff.1 hx)
    have hl3 := k3.len
    rcases k with _ | k
    · simp (disch := omega) [t5]
      refine awDraw_E 10 [[],[0],[1,0],[2,1,0],[2,1,0],[3,2,1,0,4],[2,1,0],[2,1,0],[7,2,1,0],[6,2,1,0,8,7],[5,3,2,1,0,4,9,6,8,7],[10,5,3,2,1,0,4,9,6,8,7],[2,1,0,11,10,5,3,4,9,6,8,7]] (by kernel_rfl) (by kernel_rfl) ?_
      simp (disch := omega) [t5, t4, t3, wrap_in]
      exact lpI (m - 1) (by omega) ⟨l2, i + 1, by omega, hA3, hp3, hs3.done hki (by omega) hv3 (fun h => by omega), k3, by simp, by simp [t3]⟩
    · obtain ⟨id, rfl, hid, he, hcl, hput⟩ := hA3.put (b := M.length) (Nat.le_refl _) (by omega)
      have hc1 : Cl M3 id ((k + 1) * 7) (el l2 (k + 1)).row := fun j x hx => hcl (k + 1) j x (by omega) hx
      have hc0 : Cl M3 id (k * 7) (el l2 k).row := fun j x hx => hcl k j x (by omega) hx
      simp (disch := omega) [t5]
      refine awDraw_E 10 [[],[0],[1,0],[2,1,0],[2,1,0],[3,2,1,0,4],[2,1,0],[2,1,0],[7,2,1,0],[6,2,1,0,8,7],[5,3,2,1,0,4,9,6,8,7],[10,5,3,2,1,0,4,9,6,8,7],[2,1,0,11,10,5,3,4,9,6,8,7]] (by kernel_rfl) (by kernel_rfl) ?_
      have ek : (k : Int) + 1 < n2 := by omega
      have ek0 : (k : Int) < n2 := by omega
      simp (disch := omega) [t5, t4, t3, wrap_in, ek, ek0, he]
      refine ⟨by omega, awCall_det' (l18Order_a hc1 hc0 (hv3 _ (el_mem (by omega))) (hv3 _ (el_mem (by omega)))) hl3 ?_⟩
      by_cases ho : ordN (el l2 (k + 1)) (el l2 k) < 0
      · simp (disch := omega) [ho, t5, t4, t3, wrap_in, ek, ek0, he]
        refine ⟨by omega, ?_⟩
        rw [cellsAt_of (n := 7) hc1 rfl (by omega), ow_some]
        refine ⟨rfl, ?_⟩
        rw [put_box (b := M.length) (cs := [iv 0, iv 0, iv 0, iv 0, iv 0, iv 0, iv 0]) (vs := (Value.agg (el l2 (k + 1)).row.toArray).cells.toList) (by omega) rfl (by simp [Note.row]), ow_some, cellsAt_app (cellsAt_of (n := 7) hc0 rfl (by omega)), ow_some]
        refine ⟨by omega, rfl, ?_⟩
        obtain ⟨M4, hM4⟩ : ∃ M' : Mem, M' = M3 ++ [Slot.live ⟨(Value.agg (el l2 (k + 1)).row.toArray).cells.toList, true, true, 62, 7⟩] := ⟨_, rfl⟩
        have hA4 : Acc noteR 62 M.length M4 (.slice (some ⟨id, 0, none⟩) n2 c2) l2 := by rw [hM4]; exact hA3.keeps (keeps_app _)
        have r4 : M4[M3.length]? = some (Slot.live ⟨(el l2 (k + 1)).row, true, true, 62, 7⟩) := by rw [hM4]; exact getElem?_snoc_eq
        have k4 : Keeps M M4 := by rw [hM4]; exact k3.app _
        have hidl : id < M3.length := by
          unfold rowEsz at he
          cases hm : M3[id]? with
          | none => rw [hm] at he; cases he
          | some s => exact (List.getElem?_eq_some_iff.1 hm).1
        rw [← hM4]
        clear hM4
        obtain ⟨id', hh, -, -, -, hput⟩ := hA4.put (b := M.length) (Nat.le_refl _) (by omega)
        injection hh with hh
        injection hh with hh
        subst hh
        obtain ⟨M5, p5, hA5, n5, u5⟩ := hput (k + 1) (el l2 k) (by omega) (by simp [noteR, Note.row])
        have r5 := u5 _ _ (show M3.length ≠ id by omega) r4
        have k5 : Keeps M M5 := by
          unfold Keeps
          exact fun i s hs => u5 i s (by have := (List.getElem?_eq_some_iff.1 hs).1; omega) (k4.get hs)
        obtain ⟨id', hh, -, -, -, hput⟩ := hA5.put (b := M.length) (Nat.le_refl _) (by simp; omega)
        injection hh with hh
        injection hh with hh
        subst hh
        obtain ⟨M6, p6, hA6, n6, u6⟩ := hput k (el l2 (k + 1)) (by simp; omega) (by simp [noteR, Note.row])
        have k6 : Keeps M M6 := by
          unfold Keeps
          exact fun i s hs => u6 i s (by have := (List.getElem?_eq_some_iff.1 hs).1; omega) (k5.get hs)
        rw [show putCells M.length M4 id ((k + 1) * 7) (Value.agg (el l2 k).row.toArray).cells.toList = some M5 from p5, ow_some, cells_hr (n := 7) r5 rfl, ow_some]
        refine ⟨rfl, ?_⟩
        rw [show putCells M.length M5 id (k * 7) (Value.agg (el l2 (k + 1)).row.toArray).cells.toList = some M6 from p6, ow_some]
        exact lpI k (by omega) ⟨swapL l2 (k + 1) k, hA6, (swapL_perm (by omega) (by omega)).trans hp3, hs3.step hki (by omega) ho, by omega, k6, by simp, by simp [t4], by simp [t3]⟩
      · simp (disch := omega) [ho, t5, t4, t3, wrap_in]
        exact lpI (m - 1) (by omega) ⟨l2, i + 1, by omega, hA3, hp3, hs3.done hki (by omega) hv3 (fun h => ho), k3, by simp, by simp [t3]⟩
  · have e1 : ¬ (i : Int) < n2 := by omega
    simp (disch := omega) [t4, t3, e1]
    exact ⟨l', hA2, hp, fun a b h1 h2 => hs a b h1 (by omega), k2⟩
end Go.Proofs.Ytgaiejaegimilaa

namespace Go.Proofs.Ytgaiejaegimilaa
open Go.RowKit
set_option linter.unusedVariables false
set_option linter.unusedSimpArgs false
set_option maxRecDepth 100000
attribute [local simp] List.getElem?_cons_zero
attribute [local irreducible] awCond awCall awLoop awDraw ow retQ retC resQ Keeps
theorem note_cl {M : Mem} {id : Nat} {x : Note} {t o : Bool} {e : TypeId} (h : M[id]? = some (.live ⟨x.row, o, t, e, 7⟩)) : Cl M id 0 x.row := fun j y hy => by
  rw [cell_hr h, Nat.zero_add]; exact hy
theorem sc_build (A : Option Addr) (n c : Nat) : Instr.fill (fun x => [(0, 1)][x]?) #[.slice none 0 0] [(0, .slice A n c)] = some #[.slice A n c] := by rfl
theorem Keeps.same {M M' : Mem} {B : Nat} (h : Keeps M M') : Same B M M' := ⟨h.len, fun i s _ hs => h.get hs⟩
set_option maxHeartbeats 2000000 in
theorem l18Draw_a {M : Mem} {b g k B most : Nat} (h : Src g B M k) (hb : b ≤ g) (hB : B ≤ M.length) (hk : k ≤ 1000) (hm : most ≤ 60) :
    Ctr Try.prog b 65 [.pointer (some ⟨g, 0, none⟩), iv most] M fun r M' => ∃ (l : List Note) (v : Value), r = .agg #[v] ∧ Acc noteR 62 M.length M' v l ∧ l.length ≤ most ∧ (∀ x, x ∈ l → noteB x = true) ∧ SortTo l l.length ∧ Same g M M' := by
  have hg := h.lt
  first | (refine ctr_fn Try.func65 rfl Try.ntmps65 Try.results65 rfl rfl (by simp) ?_) | (refine ctr_fnC Try.func65 rfl Try.ntmps65 Try.results65 rfl (by simp) ?_)
  simp (disch := omega) [wrap_in]
  have h0 := h.app [Slot.live ⟨[.slice none 0 0], true, true, 30, 1⟩, Slot.live ⟨[], true, true, 62, 7⟩]
  refine awCall_ctr (h0.pick (most + 1) hb (by omega) (by omega)) ?_
  rintro r M1 ⟨ct, k1, rfl, ct0, ct1, hk1, h1, u1⟩
  obtain ⟨cn, rfl⟩ := Int.eq_ofNat_of_zero_le ct0
  have hcn : cn ≤ most := by omega
  have n1 := u1.1
  simp only [List.length_append, List.length_cons, List.length_nil] at n1
  have e0 : M1[M.length]? = some (Slot.live ⟨[.slice none 0 0], true, true, 30, 1⟩) := u1.2 _ _ (by omega) (by simp)
  have e1 : M1[M.length + 1]? = some (Slot.live ⟨[], true, true, 62, 7⟩) := u1.2 _ _ (by omega) (by simp)
  have s1 : Same g M M1 := (Same.app g M _).trans (u1.same (Nat.le_refl _))
  have hA1 : Acc noteR 62 (M.length + 1) M1 (.slice (some ⟨M.length + 1, 0, none⟩) 0 0) [] := ⟨_, 0, 0, rfl, rfl, .inr ⟨M.length + 1, true, rfl, Nat.le_refl _, by simpa [cellsL] using e1⟩⟩
  try simp (disch := omega) [wrap_in]
  refine awLoop_T (fun m T M' => ∃ (l : List Note) (v : Value) (k' : Nat), l.length + m ≤ cn ∧ M'[M.length]? = some (Slot.live ⟨[.slice none 0 0], true, true, 30, 1⟩) ∧ Acc noteR 62 (M.length + 1) M' v l ∧ (∀ x, x ∈ l → noteB x = true) ∧ Src g B M' k' ∧ k' + 20 * m ≤ k + 2 + 20 * cn ∧ Same g M M' ∧ M.length + 2 ≤ M'.length ∧ look T 6 = some (iv m) ∧ look T 5 = some v ∧ look T 4 = some (.pointer (some ⟨M.length, 0, none⟩)) ∧ look T 0 = some (.pointer (some ⟨g, 0, none⟩))) cn
    ⟨[], _, k1, by simp, e0, hA1, (fun x hx => by cases hx), h1, by omega, s1, by omega, by simp, by simp, by simp, by simp⟩ ?_
  rintro m T M2 ⟨l, v, k2, hl, r0, hA, hv, h2, hk2, s2, n2, t6, t5, t4, t0⟩
  rcases m with _ | m
  · simp (disch := omega) [t6, t5, t4]
    obtain ⟨A, q, c, rfl, hq, hsl, -⟩ := hA.sl
    have hcA : A = none → c = 0 := by
      obtain ⟨_, _, _, he, -, hh⟩ := hA
      injection he with e1 e2 e3
      subst e1; subst e2; subst e3
      intro hn
      rcases hh with ⟨-, -, hh⟩ | ⟨_, _, hh, -⟩
      · exact hh
      · rw [hn] at hh; cases hh
    refine awCall_ctr ((l18Sort_a hsl (by omega) hcA hv).weaken (by omega)) ?_
    rintro r M3 ⟨l3, hA3, hp, hs, k3⟩
    have hA3' := hA3.low (B' := M.length + 1) (by omega)
    obtain ⟨A3, q3, c3, rfl, hq3, -, -⟩ := hA3.sl
    have r3 := k3.get r0
    have l3' := k3.len
    simp [sc_build, t4]
    rw [put_whole (vs := [.slice A3 q3 c3]) r3 (by omega) rfl (by simp), ow_some, cells_hr (r := ⟨[.slice A3 q3 c3], true, true, 30, 1⟩) (n := 1) (set_get (by omega)) rfl, ow_some]
    have hpl := hp.length_eq
    exact ⟨l3, _, rfl, (hA3'.set_ne (by omega)).low (by omega), by omega, fun x hx => hv x (hp.mem_iff.1 hx), hs, (s2.trans (k3.same)).trans (Same.set (by omega))⟩
  · have e : (0 : Int) < (m : Int) + 1 := by omega
    simp (disch := omega) [t6, t5, t4, t0, e]
    refine awCall_ctr (l18DrawNote_a h2 hb (by omega) (by omega)) ?_
    rintro _ M3 ⟨x, k3, rfl, hx, hk3, h3, g3⟩
    have r3 := g3.2 _ _ (by omega) r0
    have hA3 := g3.acc hA (by omega)
    have n3 := g3.1
    refine ⟨rfl, ?_⟩
    rw [put_box (b := b) (cs := [iv 0, iv 0, iv 0, iv 0, iv 0, iv 0, iv 0]) (vs := x.v.cells.toList) (by omega) rfl (by simp), ow_some]
    obtain ⟨M4, hM4⟩ : ∃ M' : Mem, M' = M3 ++ [Slot.live ⟨x.v.cells.toList, true, true, 62, 7⟩] := ⟨_, rfl⟩
    have b4 : M4[M3.length]? = some (Slot.live ⟨x.row, true, true, 62, 7⟩) := by rw [hM4]; exact getElem?_snoc_eq
    have r4 : M4[M.length]? = some (Slot.live ⟨[.slice none 0 0], true, true, 30, 1⟩) := by rw [hM4, List.getElem?_append_left (by omega)]; exact r3
    have hA4 : Acc noteR 62 (M.length + 1) M4 v l := by rw [hM4]; exact hA3.keeps (keeps_app _)
    have h4 : Src g B M4 k3 := by rw [hM4]; exact h3.app _
    have n4 : M4.length = M3.length + 1 := by rw [hM4]; simp
    have s4 : Same g M M4 := by rw [hM4]; exact (s2.trans (g3.same (Nat.le_refl _))).trans (Same.app _ _ _)
    rw [← hM4]
    clear hM4
    obtain ⟨A, q, c, rfl, hq, hsl, h1o⟩ := hA4.sl
    have hcx := note_cl b4
    refine awLoop_T (fun m' T M' => ∃ (i : Nat) (tw : Bool), i + m' = l.length ∧ M' = M4 ∧ look T 8 = some (.bool tw) ∧ look T 9 = some (iv i) ∧ look T 7 = some (.pointer (some ⟨M3.length, 0, none⟩)) ∧ look T 6 = some (iv (m + 1)) ∧ look T 5 = some (.slice A q c) ∧ look T 4 = some (.pointer (some ⟨M.length, 0, none⟩)) ∧ look T 0 = some (.pointer (some ⟨g, 0, none⟩))) l.length
      ⟨0, false, by omega, rfl, by simp, by simp, by simp, by simp [t6], by simp [t5], by simp [t4], by simp [t0]⟩ ?_
    rintro m' T M' ⟨i, tw, hi, rfl, t8, t9, t7, t6, t5, t4, t0⟩
    by_cases hlt : i < q
    · have e1 : (i : Int) < q := by omega
      obtain ⟨id, off, rfl, he, hc⟩ := hsl.at_ hlt
      simp (disch := omega) [t9, t5, e1, t8]
      cases tw
      · simp (disch := omega) [t5, t9, t7, t8, e1, he]
        refine awCall_det' (l18Order_a hc hcx (hv _ (el_mem (by omega))) hx) (by omega) ?_
        simp (disch := omega) [t5, t9, t7, t8, e1, he, wrap_in]
        exact lpI (m' - 1) (by omega) ⟨i + 1, decide (ordN (el l i) x = 0), by omega, rfl, by simp, by simp, by simp [t7], by simp [t6], by simp [t5], by simp [t4], by simp [t0]⟩
      · simp (disch := omega) [t5, t9, t7, t8, e1, he, wrap_in]
        exact lpI (m' - 1) (by omega) ⟨i + 1, true, by omega, rfl, by simp, by simp, by simp [t7], by simp [t6], by simp [t5], by simp [t4], by simp [t0]⟩
    · have e1 : ¬ (i : Int) < q := by omega
      simp (disch := omega) [t9, t5, e1, t8]
      cases tw
      · have cx := cells_hr (n := 7) b4 rfl
        simp (disch := omega) [t9, t5, t7, cx, Note.row]
        refine (hA4.keeps (keeps_app _)).append (R := noteR) (e := 62) (by_ := 56) (a := x) (by omega) (by simp; omega) (by omega) (by simp) (by kernel_rfl) (by simp [srcOf, noteR, Note.row]) (by rfl) (by omega) (by unfold maxLen; omega) ?_
        intro v' M5 hA5 hS5
        simp (disch := omega) [t6, wrap_in]
        have n5 := hS5.1
        simp only [List.length_append, List.length_cons, List.length_nil] at n5
        have r5 := hS5.2 M.length _ (by omega) (by rw [List.getElem?_append_left (by omega)]; exact r4)
        have hs5 := hS5.low (B' := B) (by omega)
        refine lpI m (by omega) ⟨l ++ [x], v', k3, by simp; omega, r5, hA5, fun y hy => ?_, (h4.app _).same hs5, by omega, (s4.trans (Same.app _ _ _)).trans (hS5.low (by omega)), by omega, by simp, by simp, by simp [t4], by simp [t0]⟩
        rcases List.mem_append.1 hy with hy | hy
        · exact hv y hy
        · rw [List.mem_singleton.1 hy]; exact hx
      · simp (disch := omega) [t9, t5, t7, t6, wrap_in]
        exact lpI m (by omega) ⟨l, _, k3, by omega, r4, hA4, hv, h4, by omega, s4, by omega, by simp, by simp [t5], by simp [t4], by simp [t0]⟩
end Go.Proofs.Ytgaiejaegimilaa

namespace Go.Proofs.Ytgaiejaegimilaa
open Go.RowKit
set_option linter.unusedVariables false
set_option linter.unusedSimpArgs false
set_option maxRecDepth 100000
attribute [local simp] List.getElem?_cons_zero
attribute [local irreducible] awCond awCall awLoop awDraw ow retQ retC resQ Keeps
def cmpX (a b : Frac) : Int := if fracB a = true ∧ fracB b = true then cmpF a b else 0
theorem CompareFrac_s {M : Mem} (a b : Frac) : Det Try.prog M.length 108 [a.v, b.v] M (iv (cmpX a b)) M := by
  first | (refine det_fn Try.func108 rfl Try.ntmps108 Try.results108 rfl rfl rfl (by simp) ?_) | (refine det_fnC Try.func108 rfl Try.ntmps108 Try.results108 rfl rfl (by simp) ?_)
  simp
  refine awCall_det' (l02Ok_a a) (by simp) ?_
  by_cases h1 : fracB a = true
  · simp [h1]
    refine awCall_det' (l02Ok_a b) (by simp) ?_
    by_cases h2 : fracB b = true
    · simp [h2]
      refine awCall_det' (compare_s a b h1 h2) (by simp) ?_
      simp [cmpX, h1, h2, keeps_app]
    · simp [cmpX, h1, h2, keeps_app]
  · simp [cmpX, h1, keeps_app]
def clashB (a b : Note) : Bool := decide (a.o = b.o) && decide (a.k = b.k) && decide (cmpX b.at_ a.fin < 0)
theorem l20Clash_a {M : Mem} {id off id' off' : Nat} {a b : Note} (hca : Cl M id off a.row) (hcb : Cl M id' off' b.row) :
    Det Try.prog M.length 66 [.pointer (some ⟨id, off, none⟩), .pointer (some ⟨id', off', none⟩)] M (.bool (clashB a b)) M := by
  obtain ⟨a0, a1, a2, a3, a4, a5, a6⟩ := note_cells hca
  obtain ⟨b0, b1, b2, b3, b4, b5, b6⟩ := note_cells hcb
  obtain ⟨g0, g2⟩ := note_cellsN hca
  obtain ⟨f0, f2⟩ := note_cellsN hcb
  first | (refine det_fn Try.func66 rfl Try.ntmps66 Try.results66 rfl rfl rfl (by simp) ?_) | (refine det_fnC Try.func66 rfl Try.ntmps66 Try.results66 rfl rfl (by simp) ?_)
  simp
  refine awDraw_M 13 [[],[0],[1,0],[2,1,0],[],[4],[5,4],[6,5,4],[3,2,1,0,7,6,5,4],[8,3,2,1,0,7,6,5,4],[9,8,3,2,1,0,7,6,5,4],[9,8,3,2,1,0,7,6,5,4],[],[12,10,9,8,3,2,1,0,7,6,5,4],[11,9,8,3,2,1,0,7,6,5,4,13,12,10]] [11] (by kernel_rfl) (by decide +kernel) (by decide +kernel) ?_
  simp (disch := omega) [g0, g2]
  refine awCall_det' (AddFrac_s a.at_ a.len) (by simp) ?_
  have hfin : (addF a.at_ a.len).1 = a.fin := rfl
  rw [hfin]
  simp (disch := omega)
  refine awDraw_E 26 [[],[0],[1,0],[2,1,0],[],[4],[5,4],[6,5,4],[3,2,1,0,7,6,5,4],[8,3,2,1,0,7,6,5,4],[9,8,3,2,1,0,7,6,5,4],[10,9,8,3,2,1,0,7,6,5,4],[11,10,9,8,3,2,1,0,7,6,5,4],[12,11,10,9,8,3,2,1,0,7,6,5,4],[9,8,3,2,1,0,7,6,5,4],[14,9,8,3,2,1,0,7,6,5,4],[15,14,9,8,3,2,1,0,7,6,5,4],[16,15,14,9,8,3,2,1,0,7,6,5,4],[13,12,11,10,9,8,3,2,1,0,7,6,5,4,17,16,15,14],[9,8,3,2,1,0,7,6,5,4,18,13,12,11,10,17,16,15,14],[19,9,8,3,2,1,0,7,6,5,4,18,13,12,11,10,17,16,15,14],[20,19,9,8,3,2,1,0,7,6,5,4,18,13,12,11,10,17,16,15,14],[21,20,19,9,8,3,2,1,0,7,6,5,4,18,13,12,11,10,17,16,15,14],[22,21,20,19,9,8,3,2,1,0,7,6,5,4,18,13,12,11,10,17,16,15,14],[23,22,21,20,19,9,8,3,2,1,0,7,6,5,4,18,13,12,11,10,17,16,15,14],[20,19,9,8,3,2,1,0,7,6,5,4,18,13,12,11,10,17,16,15,14],[24,23,22,21,20,19,9,8,3,2,1,0,7,6,5,4,18,13,12,11,10,17,16,15,14,25],[26,24,23,22,21,20,19,9,8,3,2,1,0,7,6,5,4,18,13,12,11,10,17,16,15,14,25],[20,19,9,8,3,2,1,0,7,6,5,4,18,13,12,11,10,17,16,15,14,27,26,24,23,22,21,25],[28,20,19,9,8,3,2,1,0,7,6,5,4,18,13,12,11,10,17,16,15,14,27,26,24,23,22,21,25]] (by kernel_rfl) (by kernel_rfl) ?_
  simp (disch := omega) [cellAt_app a6, cellAt_app b6, cellAt_app a4, cellAt_app b4, cellsAt_app f0]
  by_cases h1 : a.o = b.o
  · by_cases h2 : a.k = b.k
    · simp (disch := omega) [h1, h2, cellAt_app a6, cellAt_app b6, cellAt_app a4, cellAt_app b4, cellsAt_app f0]
      refine awCall_det' (CompareFrac_s b.at_ a.fin) (by simp) ?_
      simp [clashB, h1, h2, keeps_app]
    · simp (disch := omega) [h1, h2, clashB, keeps_app, cellAt_app a6, cellAt_app b6, cellAt_app a4, cellAt_app b4]
  · simp [h1, clashB, keeps_app]
end Go.Proofs.Ytgaiejaegimilaa

namespace Go.Proofs.Ytgaiejaegimilaa
open Go.RowKit
set_option linter.unusedVariables false
set_option linter.unusedSimpArgs false
set_option maxRecDepth 100000
attribute [local simp] List.getElem?_cons_zero
attribute [local irreducible] awCond awCall awLoop awDraw ow retQ retC resQ Keeps
theorem E8Tempos_a {M : Mem} {A : Option Addr} {n c : Nat} {cs : List Int} (h : Sl codeR M A n cs) (hn : n ≤ 1048576) (hcs : ∀ x, x ∈ cs → 0 ≤ x ∧ x ≤ 255) :
    Ctr Try.prog M.length 29 [.slice A n c] M fun r M' => ∃ (l : List Tempo) (v : Value), r = .agg #[v] ∧ Acc tempoR 148 M.length M' v l ∧ l.length ≤ 4 ∧ Keeps M M' := by
  first | (refine ctr_fn Try.func29 rfl Try.ntmps29 Try.results29 rfl rfl (by simp) ?_) | (refine ctr_fnC Try.func29 rfl Try.ntmps29 Try.results29 rfl (by simp) ?_)
  simp
  refine awCall_det' (l00From_a (h.app _) hn hcs) (by simp) ?_
  simp
  have hs : Src (M.length + 1) (M.length + 2) (M ++ [Slot.live ⟨[.slice none 0 0], true, true, 43, 1⟩, Slot.live ⟨[.slice A n c, iv 0, .int .u64 0], true, true, 156, 3⟩]) 0 := by
    simpa using src_new (h.app [Slot.live ⟨[.slice none 0 0], true, true, 43, 1⟩]) hn hcs (c := c)
  refine awCall_ctr (l17Draw_a (b := M.length) hs (by omega) (by simp) (by omega)) ?_
  rintro _ M1 ⟨l, v, rfl, hA, hl, hs1⟩
  obtain ⟨A1, q, c1, rfl, hq, -⟩ := hA.sl
  have r0 : M1[M.length]? = some (Slot.live ⟨[.slice none 0 0], true, true, 43, 1⟩) := hs1.2 _ _ (by omega) (by simp)
  refine ⟨rfl, ?_⟩
  have l0 := (List.getElem?_eq_some_iff.1 r0).1
  have := put_whole (b := M.length) (vs := [.slice A1 q c1]) r0 (by omega) rfl (by simp)
  simp
  rw [this, ow_some, cells_hr (r := ⟨[.slice A1 q c1], true, true, 43, 1⟩) (n := 1) (set_get l0) rfl, ow_some]
  exact ⟨l, _, rfl, (hA.set_ne (by simp)).low (by simp), hl, keeps_set ((hs1.low (B' := M.length) (by omega)).keeps (keeps_app _) (Nat.le_refl _)) (Nat.le_refl _)⟩
def ClashNo (l : List Note) : Prop := ∀ a b, a < b → b < l.length → clashB (el l a) (el l b) = false
set_option maxHeartbeats 2000000 in
theorem E8Score_a {M : Mem} {A : Option Addr} {n c : Nat} {cs : List Int} (h : Sl codeR M A n cs) (hn : n ≤ 1048576) (hcs : ∀ x, x ∈ cs → 0 ≤ x ∧ x ≤ 255) :
    Ctr Try.prog M.length 28 [.slice A n c] M fun r M' => ∃ (l : List Note) (v : Value), r = .agg #[v] ∧ Acc noteR 62 M.length M' v l ∧ l.length ≤ 10 ∧ (∀ x, x ∈ l → noteB x = true) ∧ ClashNo l ∧ Keeps M M' := by
  first | (refine ctr_fn Try.func28 rfl Try.ntmps28 Try.results28 rfl rfl (by simp) ?_) | (refine ctr_fnC Try.func28 rfl Try.ntmps28 Try.results28 rfl (by simp) ?_)
  simp
  refine awCall_det' (l00From_a (h.app _) hn hcs) (by simp) ?_
  simp
  have hs : Src (M.length + 1) (M.length + 2) (M ++ [Slot.live ⟨[.slice none 0 0], true, true, 30, 1⟩, Slot.live ⟨[.slice A n c, iv 0, .int .u64 0], true, true, 156, 3⟩]) 0 := by
    simpa using src_new (h.app [Slot.live ⟨[.slice none 0 0], true, true, 30, 1⟩]) hn hcs (c := c)
  refine awCall_ctr (l18Draw_a (b := M.length) (most := 10) hs (by omega) (by simp) (by omega) (by omega)) ?_
  rintro _ M1 ⟨xl, xv, rfl, hAx, hxl, hxv, -, hs1⟩
  obtain ⟨A1, q, c1, rfl, hq, hslx, -⟩ := hAx.sl
  have r0 : M1[M.length]? = some (Slot.live ⟨[.slice none 0 0], true, true, 30, 1⟩) := hs1.2 _ _ (by omega) (by simp)
  have k1 : Keeps M M1 := (hs1.low (B' := M.length) (by omega)).keeps (keeps_app _) (Nat.le_refl _)
  have l0 := (List.getElem?_eq_some_iff.1 r0).1
  refine ⟨rfl, ?_⟩
  rw [put_box (b := M.length) (cs := [.slice none 0 0]) (vs := (Value.agg #[.slice A1 q c1]).cells.toList) (by omega) rfl (by simp), ow_some, put_box (b := M.length) (cs := [.slice none 0 0]) (by simp; omega) rfl (by simp), ow_some]
  obtain ⟨M2, hM2⟩ : ∃ M' : Mem, M' = M1 ++ [Slot.live ⟨(Value.agg #[.slice A1 q c1]).cells.toList, true, true, 30, 1⟩] ++ [Slot.live ⟨[.slice none 0 0], true, true, 30, 1⟩] := ⟨_, rfl⟩
  have kk2 : Keeps M1 M2 := by rw [hM2, List.append_assoc]; exact keeps_app _
  have b1 : M2[M1.length]? = some (Slot.live ⟨[.slice A1 q c1], true, true, 30, 1⟩) := by rw [hM2]; simp
  have b2 : M2[M1.length + 1]? = some (Slot.live ⟨[.slice none 0 0], true, true, 30, 1⟩) := by rw [hM2]; simp
  have n2 : M2.length = M1.length + 2 := by rw [hM2]; simp
  rw [← hM2]
  simp only [List.length_append, List.length_cons, List.length_nil]
  clear hM2
  generalize hp : M1.length = p at *
  refine awLoop_T (fun m T M' => ∃ (l : List Note) (v : Value) (i : Nat), i + m = q ∧ l.length ≤ i ∧ M'[p]? = some (Slot.live ⟨[.slice A1 q c1], true, true, 30, 1⟩) ∧ M'[p + 1]? = some (Slot.live ⟨[v], true, true, 30, 1⟩) ∧ Acc noteR 62 (p + 2) M' v l ∧ (∀ x, x ∈ l → noteB x = true) ∧ ClashNo l ∧ Keeps M1 M' ∧ look T 6 = some (iv i) ∧ look T 5 = some (.pointer (some ⟨p + 1, 0, none⟩)) ∧ look T 4 = some (.pointer (some ⟨p, 0, none⟩)) ∧ look T 2 = some (.pointer (some ⟨M.length, 0, none⟩))) q
    ⟨[], _, 0, by omega, by simp, b1, b2, .nil, (fun x hx => by cases hx), (fun a b _ h => by simp at h), kk2, by simp, by simp, by simp, by simp⟩ ?_
  rintro m T M3 ⟨l, v, i, hi, hli, b1, b2, hA, hv, hcl, k3, t6, t5, t4, t2⟩
  have n3 : p + 1 < M3.length := (List.getElem?_eq_some_iff.1 b2).1
  by_cases hlt : i < q
  · obtain ⟨id, off, rfl, he, hcx⟩ := (hslx.keeps k3).at_ hlt
    obtain ⟨A, w, c2, rfl, hw, hsl, -⟩ := hA.sl
    simp (disch := omega) [t6, t5, t4, cell_hr b1, hlt]
    refine awLoop_T (fun m' T M' => ∃ (k : Nat) (ok : Bool), k + m' = w ∧ M' = M3 ∧ (ok = true ↔ ∀ j, j < k → clashB (el l j) (el xl i) = false) ∧ look T 7 = some (.bool ok) ∧ look T 8 = some (iv k) ∧ look T 6 = some (iv i) ∧ look T 5 = some (.pointer (some ⟨p + 1, 0, none⟩)) ∧ look T 4 = some (.pointer (some ⟨p, 0, none⟩)) ∧ look T 2 = some (.pointer (some ⟨M.length, 0, none⟩))) w
      ⟨0, true, by omega, rfl, by simp, by simp, by simp, by simp [t6], by simp [t5], by simp [t4], by simp [t2]⟩ ?_
    rintro m' T M' ⟨k, ok, hk, rfl, hok, t7, t8, t6, t5, t4, t2⟩
    have k3l := k3.len
    by_cases hkw : k < w
    · obtain ⟨ido, offo, rfl, heo, hco⟩ := hsl.at_ hkw
      simp (disch := omega) [t8, t5, cell_hr b2, hkw, t7]
      refine awDraw_E 10 [[],[0],[1,0],[2,1,0],[1,0],[3,2,1,0,4],[1,0],[6,1,0],[1,0],[7,6,1,0,8],[5,3,2,1,0,4,9,7,6,8],[10,5,3,2,1,0,4,9,7,6,8],[1,0,11,10,5,3,2,4,9,7,6,8],[12,1,0,11,10,5,3,2,4,9,7,6,8]] (by kernel_rfl) (by kernel_rfl) ?_
      cases ok
      · simp (disch := omega) [t7, t8, t6, t5, t4, cell_hr b1, cell_hr b2, hkw, hlt, he, heo, wrap_in]
        refine lpI (m' - 1) (by omega) ⟨k + 1, false, by omega, rfl, ?_, by simp, by simp, by simp [t6], by simp [t5], by simp [t4], by simp [t2]⟩
        constructor
        · intro h; cases h
        · intro h
          exact hok.2 fun j hj => h j (by omega)
      · simp (disch := omega) [t7, t8, t6, t5, t4, cell_hr b1, cell_hr b2, hkw, hlt, he, heo, wrap_in]
        refine awCall_det' (l20Clash_a hco hcx) (by omega) ?_
        simp (disch := omega) [t7, t8, t6, t5, t4, wrap_in]
        refine lpI (m' - 1) (by omega) ⟨k + 1, !clashB (el l k) (el xl i), by omega, rfl, ?_, by simp, by simp, by simp [t6], by simp [t5], by simp [t4], by simp [t2]⟩
        rw [Bool.not_eq_true']
        constructor
        · intro h j hj
          by_cases e : j = k
          · subst e; exact h
          · exact hok.1 rfl j (by omega)
        · intro h
          exact h k (by omega)
    · have e1 : ¬ (k : Int) < w := by omega
      simp (disch := omega) [t8, t5, cell_hr b2, e1, t7]
      cases ok
      · simp (disch := omega) [t7, t8, t6, t5, t4, wrap_in]
        exact lpI (m - 1) (by omega) ⟨l, _, i + 1, by omega, by omega, b1, b2, hA, hv, hcl, k3, by simp, by simp [t5], by simp [t4], by simp [t2]⟩
      · have c1 := fun L => cellAt_app (cell_hr b1 0) L
        have c2 := fun L => cellAt_app (cell_hr b2 0) L
        have cx := fun L => cellsAt_app (cellsAt_of (n := 7) hcx rfl (by omega)) L
        simp (disch := omega) [t7]
        refine awDraw_M 8 [[],[0],[],[2],[],[3,2,4],[5,3,2,4],[6,5,3,2,4],[1,0,7,6,5,3,2,4],[0,1,2,3,4,5,6,7,8],[9,0,1,2,3,4,5,6,7,8]] [] (by kernel_rfl) (by decide +kernel) (by decide +kernel) ?_
        simp (disch := omega) [t8, t6, t5, t4, c1, c2, cx, hlt, he, noteR, Note.row]
        refine (hA.keeps (keeps_app _)).append (R := noteR) (e := 62) (by_ := 56) (a := el xl i) (by omega) (by simp; omega) (by omega) (by simp) (by kernel_rfl) (by simp [srcOf, noteR, Note.row]) (by rfl) (by omega) (by unfold maxLen; omega) ?_
        intro v' M5 hA5 hS5
        have n5 := hS5.1
        simp only [List.length_append, List.length_cons, List.length_nil] at n5
        have b15 := hS5.2 p _ (by omega) (by rw [List.getElem?_append_left (by omega)]; exact b1)
        have b25 := hS5.2 (p + 1) _ (by omega) (by rw [List.getElem?_append_left (by omega)]; exact b2)
        have k5 : Keeps M1 M5 := hS5.keeps (k3.app _) (by omega)
        obtain ⟨A', w', c', rfl, hw', -, -⟩ := hA5.sl
        refine ⟨rfl, ?_⟩
        simp
        rw [put_whole (b := M.length) (vs := [.slice A' w' c']) b25 (by omega) rfl (by simp), ow_some]
        simp (disch := omega) [t6, wrap_in]
        refine lpI (m - 1) (by omega) ⟨l ++ [el xl i], .slice A' w' c', i + 1, by omega, by simp; omega, by rw [List.getElem?_set_ne (by omega)]; exact b15, set_get (by omega), hA5.set_ne (by omega), fun y hy => ?_, fun x y hxy hy => ?_, keeps_set k5 (by omega), by simp, by simp [t5], by simp [t4], by simp [t2]⟩
        · rcases List.mem_append.1 hy with hy | hy
          · exact hv y hy
          · rw [List.mem_singleton.1 hy]; exact hxv _ (el_mem (by omega))
        · simp only [List.length_append, List.length_cons, List.length_nil] at hy
          rw [el_append_left (by omega)]
          by_cases e : y = l.length
          · subst e
            rw [el_append_right (Nat.le_refl _), Nat.sub_self]
            exact hok.1 rfl x (by omega)
          · rw [el_append_left (by omega)]
            exact hcl x y hxy (by omega)
  · obtain ⟨A, w, c2, rfl, hw, hsl, -⟩ := hA.sl
    simp (disch := omega) [t6, t5, t4, t2, cell_hr b1, cells_hr (n := 1) b2 rfl, hlt]
    have r3 := k3.get r0
    have l3 := (List.getElem?_eq_some_iff.1 r3).1
    have := put_whole (b := M.length) (vs := [.slice A w c2]) r3 (by omega) rfl (by simp)
    rw [this, ow_some, cells_hr (r := ⟨[.slice A w c2], true, true, 30, 1⟩) (n := 1) (set_get l3) rfl, ow_some]
    exact ⟨l, _, rfl, (hA.set_ne (by omega)).low (by omega), by omega, hv, hcl, keeps_set (k1.trans k3) (Nat.le_refl _)⟩
end Go.Proofs.Ytgaiejaegimilaa

namespace Go.Proofs.Ytgaiejaegimilaa
open Go.RowKit
set_option linter.unusedVariables false
set_option linter.unusedSimpArgs false
set_option maxRecDepth 100000
attribute [local simp] List.getElem?_cons_zero
attribute [local irreducible] awCond awCall awLoop awDraw ow retQ retC resQ Keeps
theorem idx_spec {l : List Tempo} {b : Frac} (h0 : cmpF (el l 0).beat b ≤ 0) : ∀ n, 0 < n → idxT l b n < n ∧ cmpF (el l (idxT l b n)).beat b ≤ 0 ∧ ∀ i, idxT l b n < i → i < n → ¬ cmpF (el l i).beat b ≤ 0
  | 0, h => by omega
  | n + 1, _ => by
    have e : idxT l b (n + 1) = if cmpF (el l n).beat b ≤ 0 then n else idxT l b n := rfl
    by_cases hc : cmpF (el l n).beat b ≤ 0
    · rw [if_pos hc] at e
      rw [e]
      exact ⟨by omega, hc, fun i h1 h2 => by omega⟩
    · rw [if_neg hc] at e
      rcases Nat.eq_zero_or_pos n with hn | hn
      · subst hn
        exact absurd h0 hc
      · obtain ⟨a1, a2, a3⟩ := idx_spec h0 n hn
        rw [e]
        refine ⟨by omega, a2, fun i h1 h2 => ?_⟩
        by_cases hi : i = n
        · rw [hi]; exact hc
        · exact a3 i h1 (by omega)
/-- A valid map, in rational numbers. -/
structure MapQ (l : List Tempo) : Prop where
  pos : 0 < l.length
  frac : ∀ i, i < l.length → fracB (el l i).beat = true
  zero : (el l 0).beat.q = 0
  sam : ∀ i, i < l.length → 1 ≤ (el l i).s ∧ (el l i).s ≤ 1000
  inc : ∀ i, i + 1 < l.length → (el l i).beat.q ≤ (el l (i + 1)).beat.q
  has : ∀ i, i < l.length → ∃ a, posK l i = some a
theorem q_zero {f : Frac} (h : f.n = 0) : f.q = 0 := by
  unfold Frac.q
  rw [h, Rat.zero_divInt]
theorem mapQ {l : List Tempo} (h : tempB l = true) : MapQ l := by
  obtain ⟨hA, hP⟩ := tempB_iff.1 h
  obtain ⟨⟨l1, l2⟩, ha, h0, hs⟩ := tempA_iff.1 hA
  have hf : ∀ i, i < l.length → fracB (el l i).beat = true := fun i hi => (beatB_iff.1 (tempoB_iff.1 (ha i hi)).1).1
  refine ⟨by omega, hf, q_zero h0, fun i hi => (tempoB_iff.1 (ha i hi)).2, fun i hi => ?_, fun i hi => Option.isSome_iff_exists.1 (hP i hi)⟩
  have := hs (i + 1) hi (by omega)
  rw [Nat.add_sub_cancel] at this
  exact (cmpF_q (fracB_iff.1 (hf i (by omega))).1.1 (fracB_iff.1 (hf _ hi)).1.1).1 (by omega)
theorem MapQ.step {l : List Tempo} (h : MapQ l) {i : Nat} (hi : i + 1 < l.length) {a a' : Frac} (ha : posK l i = some a) (ha' : posK l (i + 1) = some a') : a'.q = a.q + ((el l (i + 1)).beat.q - (el l i).beat.q) * (el l i).s := by
  have hs := posK_succ ha
  rw [ha'] at hs
  split at hs
  · rename_i hc
    injection hs with hs
    rw [hs]
    exact onF_q (h.frac i (by omega)) (h.frac _ hi) (posK_ok l ha) (h.sam i (by omega)) hc
  · cases hs
theorem s_pos {s : Int} (h : 1 ≤ s) : (0 : Rat) ≤ (s : Rat) := by
  have : ((0 : Int) : Rat) ≤ (s : Rat) := Rat.intCast_le_intCast.2 (by omega)
  simpa using this
theorem MapQ.grow {l : List Tempo} (h : MapQ l) {i : Nat} {a : Frac} (ha : posK l i = some a) : ∀ (d : Nat) {a' : Frac}, i + d < l.length → posK l (i + d) = some a' → a.q ≤ a'.q
  | 0, a', _, ha' => by
    rw [Nat.add_zero, ha] at ha'
    injection ha' with e
    rw [e]
    exact Rat.le_refl
  | d + 1, a', hd, ha' => by
    obtain ⟨c, hc⟩ := h.has (i + d) (by omega)
    have h1 := h.grow ha d (by omega) hc
    have h2 := h.step (i := i + d) hd hc ha'
    have h3 := h.inc (i + d) hd
    have h4 : (0 : Rat) ≤ ((el l (i + d + 1)).beat.q - (el l (i + d)).beat.q) * (el l (i + d)).s := Rat.mul_nonneg (by grind) (s_pos (h.sam (i + d) (by omega)).1)
    grind
/-- What a position is. -/
theorem posB_at {l : List Tempo} {b : Frac} (h : (posB l b).2 = 0) : MapQ l ∧ fracB b = true ∧ ∃ a, posK l (idxT l b l.length) = some a ∧ idxT l b l.length < l.length ∧ (el l (idxT l b l.length)).beat.q ≤ b.q ∧ (∀ i, idxT l b l.length < i → i < l.length → ¬ (el l i).beat.q ≤ b.q) ∧
    (posB l b).1.q = a.q + (b.q - (el l (idxT l b l.length)).beat.q) * (el l (idxT l b l.length)).s := by
  have hA : askC l b = 0 := by
    rcases Decidable.em (askC l b = 0) with h' | h'
    · exact h'
    · unfold posB at h
      rw [if_neg h'] at h
      exact absurd h h'
  obtain ⟨hT, hB⟩ := askC_zero.1 hA
  have hm := mapQ hT
  obtain ⟨hbf, hb0, -⟩ := beatB_iff.1 hB
  have hbd := (fracB_iff.1 hbf).1.1
  have h00 : cmpF (el l 0).beat b ≤ 0 := by
    rw [cmpF_q (fracB_iff.1 (hm.frac 0 hm.pos)).1.1 hbd, hm.zero]
    exact (Rat.divInt_nonneg_iff_of_pos_right (by omega)).2 hb0
  obtain ⟨i1, i2, i3⟩ := idx_spec h00 l.length hm.pos
  obtain ⟨a, ha⟩ := hm.has _ i1
  refine ⟨hm, hbf, a, ha, i1, ?_, fun i h1 h2 => ?_, ?_⟩
  · exact (cmpF_q (fracB_iff.1 (hm.frac _ i1)).1.1 hbd).1 i2
  · have := i3 i h1 h2
    rwa [cmpF_q (fracB_iff.1 (hm.frac i h2)).1.1 hbd] at this
  · unfold posB at h ⊢
    rw [if_pos hA, posAll_el i1 ha] at h ⊢
    split at h
    · rename_i hc
      rw [if_pos hc]
      exact onF_q (hm.frac _ i1) hbf (posK_ok l ha) (hm.sam _ i1) hc
    · cases h
theorem posB_mono {l : List Tempo} {b b' : Frac} (h : (posB l b).2 = 0) (h' : (posB l b').2 = 0) (hq : b.q ≤ b'.q) : (posB l b).1.q ≤ (posB l b').1.q := by
  obtain ⟨hm, hbf, a, ha, i1, i2, i3, e⟩ := posB_at h
  obtain ⟨-, hbf', a', ha', j1, j2, j3, e'⟩ := posB_at h'
  rw [e, e']
  generalize idxT l b l.length = k at *
  generalize idxT l b' l.length = k' at *
  have hs := s_pos (hm.sam k i1).1
  have hs' := s_pos (hm.sam k' j1).1
  by_cases hk : k' = k
  · subst hk
    rw [ha] at ha'
    injection ha' with ea
    rw [← ea]
    have := Rat.mul_le_mul_of_nonneg_right (show b.q - (el l k').beat.q ≤ b'.q - (el l k').beat.q by grind) hs
    grind
  · have hk2 : k < k' := by
      rcases Nat.lt_or_ge k k' with h | h
      · exact h
      · exfalso
        have := j3 k (by omega) i1
        grind
    obtain ⟨c, hc⟩ := hm.has (k + 1) (by omega)
    have h1 := hm.step (by omega) ha hc
    have h2' := i3 (k + 1) (by omega) (by omega)
    have h2 : b.q ≤ (el l (k + 1)).beat.q := by grind
    have h3 := Rat.mul_le_mul_of_nonneg_right (show b.q - (el l k).beat.q ≤ (el l (k + 1)).beat.q - (el l k).beat.q by grind) hs
    have h4 := hm.grow hc (k' - (k + 1)) (a' := a') (by omega) (by rw [show k + 1 + (k' - (k + 1)) = k' by omega]; exact ha')
    have h5 : (0 : Rat) ≤ (b'.q - (el l k').beat.q) * (el l k').s := Rat.mul_nonneg (by grind) hs'
    grind
theorem sampB_mono {l : List Tempo} {b b' : Frac} (h : (sampB l b).2 = 0) (h' : (sampB l b').2 = 0) (hq : b.q ≤ b'.q) : (sampB l b).1 ≤ (sampB l b').1 := by
  have ok : ∀ x, (sampB l x).2 = 0 → (posB l x).2 = 0 ∧ (sampB l x).1 = (posB l x).1.q.floor := by
    intro x hx
    unfold sampB at hx ⊢
    by_cases hc : (posB l x).2 = 0
    · rw [if_pos hc]
      exact ⟨hc, (floor_q (by have := (fracB_iff.1 (posB_ok hc)).1; omega)).symm⟩
    · rw [if_neg hc] at hx
      exact absurd hx hc
  obtain ⟨o1, e1⟩ := ok b h
  obtain ⟨o2, e2⟩ := ok b' h'
  rw [e1, e2]
  exact Rat.floor_monotone (posB_mono o1 o2 hq)
theorem sampB_pos {l : List Tempo} {b : Frac} (h : (sampB l b).2 = 0) : 0 ≤ (sampB l b).1 := by
  unfold sampB at h ⊢
  by_cases hc : (posB l b).2 = 0
  · rw [if_pos hc]
    obtain ⟨hm, hbf, a, ha, i1, i2, -, e⟩ := posB_at hc
    have h0 : posK l 0 = some ⟨0, 1⟩ := rfl
    have h1 := hm.grow h0 (idxT l b l.length) (a' := a) (by omega) (by rw [Nat.zero_add]; exact ha)
    rw [q_zero rfl] at h1
    have h2 : (0 : Rat) ≤ (b.q - (el l (idxT l b l.length)).beat.q) * (el l (idxT l b l.length)).s := Rat.mul_nonneg (by grind) (s_pos (hm.sam _ i1).1)
    have hd := (fracB_iff.1 (posB_ok hc)).1.1
    have h3 : (0 : Rat) ≤ (posB l b).1.q := by grind
    have h4 := (Rat.divInt_nonneg_iff_of_pos_right (a := (posB l b).1.n) (show 0 < (posB l b).1.d by omega)).1 h3
    exact Int.ediv_nonneg h4 (by omega)
  · rw [if_neg hc]
    exact Int.le_refl 0
end Go.Proofs.Ytgaiejaegimilaa

namespace Go.Proofs.Ytgaiejaegimilaa
open Go.RowKit
set_option linter.unusedVariables false
set_option linter.unusedSimpArgs false
set_option maxRecDepth 100000
attribute [local simp] List.getElem?_cons_zero
attribute [local irreducible] awCond awCall awLoop awDraw ow retQ retC resQ Keeps
theorem onF_steps {frm beat at_ : Frac} {s : Int} (h1 : (subF beat frm).2 = 0) : onF frm beat s at_ = if (mulF (subF beat frm).1 ⟨s, 1⟩).2 = 0 then addF at_ (mulF (subF beat frm).1 ⟨s, 1⟩).1 else (at_, (mulF (subF beat frm).1 ⟨s, 1⟩).2) := by
  unfold onF
  rw [if_neg (by omega)]
  split
  · rename_i h; simp [h]
  · rename_i h; rw [if_pos (by omega)]
theorem onF_no {frm beat at_ : Frac} {s : Int} (h1 : (subF beat frm).2 ≠ 0) : onF frm beat s at_ = (at_, (subF beat frm).2) := by
  unfold onF
  rw [if_pos h1]
structure Pos (M M' : Mem) (A : Option Addr) (n c : Nat) (b a : Frac) : Prop where
  keeps : Keeps M M'
  r0 : cellAt M' M.length 0 = some (.slice A n c)
  r1 : cellsAt M' (M.length + 1) 0 2 = some [iv b.n, iv b.d]
  g2 : M'[M.length + 2]? = some (.live ⟨[iv 0, iv 0], true, true, 58, 2⟩)
  g3 : M'[M.length + 3]? = some (.live ⟨[iv a.n, iv a.d], true, true, 58, 2⟩)
theorem Pos.app {M M' : Mem} {A : Option Addr} {n c : Nat} {b a : Frac} (h : Pos M M' A n c b a) (L : Mem) : Pos M (M' ++ L) A n c b a :=
  ⟨h.keeps.app _, cellAt_app h.r0 L, cellsAt_app h.r1 L, by rw [List.getElem?_append_left (List.getElem?_eq_some_iff.1 h.g2).1]; exact h.g2, by rw [List.getElem?_append_left (List.getElem?_eq_some_iff.1 h.g3).1]; exact h.g3⟩
theorem Pos.upd {M M' : Mem} {A : Option Addr} {n c : Nat} {b a : Frac} (h : Pos M M' A n c b a) (w : Frac) : Pos M (M'.set (M.length + 3) (.live ⟨[iv w.n, iv w.d], true, true, 58, 2⟩)) A n c b w := by
  have hlt := (List.getElem?_eq_some_iff.1 h.g3).1
  refine ⟨keeps_set h.keeps (by omega), ?_, ?_, ?_, List.getElem?_set_self hlt⟩
  · have := h.r0
    unfold cellAt at this ⊢
    rw [List.getElem?_set_ne (by omega)]
    exact this
  · have := h.r1
    unfold cellsAt at this ⊢
    rw [List.getElem?_set_ne (by omega)]
    exact this
  · rw [List.getElem?_set_ne (by omega)]
    exact h.g2
theorem Pos.put {M M' : Mem} {A : Option Addr} {n c b0 : Nat} {b a : Frac} (h : Pos M M' A n c b a) (hb : b0 = M.length) (w : Frac) : putCells b0 M' (M.length + 3) 0 [iv w.n, iv w.d] = some (M'.set (M.length + 3) (.live ⟨[iv w.n, iv w.d], true, true, 58, 2⟩)) := by
  subst hb
  exact put_whole h.g3 (by omega) rfl (by simp)
theorem Pos.ld {M M' : Mem} {A : Option Addr} {n c : Nat} {b a : Frac} (h : Pos M M' A n c b a) : cellsAt M' (M.length + 3) 0 2 = some [iv a.n, iv a.d] := cells_hrq h.g3 rfl
theorem Pos.ret {M M' : Mem} {A : Option Addr} {n c : Nat} {b a w : Frac} (h : Pos M M' A n c b a) :
    ow (putCells M.length M' (M.length + 2) 0 [iv w.n, iv w.d]) fun M'' => ow (cellsAt M'' (M.length + 2) 0 2) fun cs => Value.agg cs.toArray = w.v ∧ Keeps M M'' := by
  have := ret_box (L := []) (w := w.v) (vs := [iv w.n, iv w.d]) (n := 2) (b := M.length) h.g2 h.keeps (by omega) rfl rfl ⟨rfl, trivial⟩
  rw [List.append_nil] at this
  exact this
set_option maxHeartbeats 4000000 in
theorem position_i {M : Mem} {A : Option Addr} {n c : Nat} {l : List Tempo} (b : Frac) (h : Sl tempoR M A n l) (hn : n ≤ 1099511627776) (hb : fracB b = true) (hf : ∀ i, i < l.length → fracB (el l i).beat = true) :
    Det Try.prog M.length 102 [.agg #[.slice A n c], b.v] M (.tuple #[(goF l b l.length 0 ⟨0, 1⟩).1.v, iv (goF l b l.length 0 ⟨0, 1⟩).2]) M := by
  have hl := h.1
  refine Ctr.pure ?_ rfl
  first | (refine ctr_fn Try.func102 rfl Try.ntmps102 Try.results102 rfl rfl (by simp) ?_) | (refine ctr_fnC Try.func102 rfl Try.ntmps102 Try.results102 rfl (by simp) ?_)
  simp [fr_build]
  refine awLoop_T (fun m T M' => ∃ (k : Nat) (a : Frac), k + m = n ∧ Pos M M' A n c b a ∧ goF l b l.length 0 ⟨0, 1⟩ = goF l b m k a ∧ look T 17 = some (iv k) ∧ look T 15 = some (.slice A n c) ∧ look T 16 = some (iv n) ∧ look T 2 = some (.pointer (some ⟨M.length, 0, none⟩)) ∧ look T 3 = some (.pointer (some ⟨M.length + 1, 0, none⟩)) ∧ look T 4 = some (.pointer (some ⟨M.length + 2, 0, none⟩)) ∧ look T 6 = some (.pointer (some ⟨M.length + 3, 0, none⟩))) n
    ⟨0, ⟨0, 1⟩, by omega, ⟨keeps_app _, by simp, by simp, by simp, by simp⟩, by rw [hl], by simp, by simp, by simp, by simp, by simp, by simp, by simp⟩ ?_
  rintro m T M1 ⟨k, a, hm, hP, hgo, t17, t15, t16, t2, t3, t4, t6⟩
  have hK := hP.keeps
  have hr0 := hP.r0
  have hr1 := hP.r1
  have hlen := (List.getElem?_eq_some_iff.1 hP.g3).1
  by_cases hlt : k < n
  · obtain ⟨id, off, rfl, he, hc⟩ := (h.keeps hK).at_ hlt
    obtain ⟨m', rfl⟩ : ∃ m', m = m' + 1 := ⟨m - 1, by omega⟩
    have hld := tempo_load hc
    have x3 := fun L => (hP.app L).ld
    simp (disch := omega) [t17, t15, t16, t2, t3, t4, t6, hlt, he, hld, hr1, cellsAt_app hr1]
    refine awDraw_E 15 [[],[0],[],[2],[3,2],[1,0,4,3,2],[5,1,0,4,3,2],[6,5,1,0,4,3,2],[7,6,5,1,0,4,3,2],[6,5,1,0,4,3,2],[9,6,5,1,0,4,3,2],[8,7,6,5,1,0,4,3,2,10,9],[11,8,7,6,5,1,0,4,3,2,10,9],[12,11,8,7,6,5,1,0,4,3,2,10,9],[6,5,1,0,4,3,2],[13,12,11,8,7,6,5,1,0,4,3,2,10,9,14],[15,13,12,11,8,7,6,5,1,0,4,3,2,10,9,14],[6,5,1,0,4,3,2,16,15,13,12,11,8,7,10,9,14],[17,6,5,1,0,4,3,2,16,15,13,12,11,8,7,10,9,14]] (by kernel_rfl) (by kernel_rfl) ?_
    have hr0' := fun L => cellAt_app hr0 L
    have hr1' := fun L => cellsAt_app hr1 L
    by_cases hkn : k + 1 = n
    · have hla : lastB l b k = true := by unfold lastB; rw [decide_eq_true (by omega)]; rfl
      have ego : goF l b (m' + 1) k a = onF (el l k).beat b (el l k).s a := by rw [goF, if_pos hla]
      rw [ego] at hgo
      have hne' : (k : Int) + 1 = n := by omega
      simp (disch := omega) [t17, t15, t16, t2, t3, t4, t6, hr0', hr1', hne', wrap_in]
      refine awCall_det' (SubFrac_i b (el l k).beat) (by simp; omega) ?_
      by_cases f1 : (subF b (el l k).beat).2 = 0
      case neg =>
        have e := onF_no (at_ := a) (s := (el l k).s) f1
        rw [e] at hgo
        simp (disch := omega) [f1, t4, t6, x3, hgo]
        exact (hP.app _).ret
      have e := onF_steps (at_ := a) (s := (el l k).s) f1
      simp (disch := omega) [f1, t4, t6]
      refine awDraw_L 8 [[],[],[1],[2,1],[0,3,2,1],[4,0,3,2,1],[5,4,0,3,2,1],[5,4,0,3,2,1],[6,5,4,0,3,2,1],[7,5,4,0,3,2,1,8,6]] [7] (by kernel_rfl) (by kernel_rfl) (by kernel_rfl) ?_
      simp (disch := omega) [f1, t4, t6]
      refine awCall_det' (whole_i (el l k).s) (by simp) ?_
      simp (disch := omega)
      refine awCall_det' (MulFrac_i (subF b (el l k).beat).1 ⟨(el l k).s, 1⟩) (by simp) ?_
      by_cases f2 : (mulF (subF b (el l k).beat).1 ⟨(el l k).s, 1⟩).2 = 0
      case neg =>
        rw [if_neg f2] at e
        rw [e] at hgo
        simp (disch := omega) [f2, t4, t6, x3, hgo]
        exact (hP.app _).ret
      rw [if_pos f2] at e
      simp (disch := omega) [f2, t4, t6, x3]
      refine awCall_det' (AddFrac_i a (mulF (subF b (el l k).beat).1 ⟨(el l k).s, 1⟩).1) (by simp; omega) ?_
      generalize addF a (mulF (subF b (el l k).beat).1 ⟨(el l k).s, 1⟩).1 = w at e ⊢
      simp (disch := omega) [t4, t6]
      generalize hM2 : (M1 ++ _ : Mem) = M2
      have hP2 : Pos M M2 (some ⟨id, off, none⟩) n c b a := by rw [← hM2]; exact hP.app _
      clear hM2
      rw [hP2.put rfl w.1]
      simp only [ow_some]
      have hP3 := hP2.upd w.1
      generalize M2.set (M.length + 3) (.live ⟨[iv w.1.n, iv w.1.d], true, true, 58, 2⟩) = M3 at hP3 ⊢
      rw [e] at hgo
      have f3 : w.2 = 0 ∨ w.2 ≠ 0 := by omega
      rcases f3 with f3 | f3
      · simp (disch := omega) [t4, t6, f3, hP3.ld, hgo]
        exact hP3.ret
      · simp (disch := omega) [t4, t6, f3, hP3.ld, hgo]
        exact hP3.ret
    have hk1 : k + 1 < n := by omega
    obtain ⟨_, _, ee, -, hcn⟩ := (h.keeps hK).at_ hk1
    cases ee
    have hldn := fun L => cellsAt_app (tempo_cellsN hcn) L
    have hne' : ¬ (k : Int) + 1 = n := by omega
    have et : ((k : Int) + 1).toNat = k + 1 := by omega
    have he' : ∀ L : Mem, rowEsz (M1 ++ L) id = some 3 := fun L => rowEsz_keeps (keeps_app L) he
    simp (disch := omega) [t17, t15, t16, t2, t3, t4, t6, hr0', hr1', hne', he', hldn, et, wrap_in]
    refine ⟨by omega, ?_⟩
    refine awCall_det' (compare_i (el l (k + 1)).beat b (hf _ (by omega)) hb) (by simp; omega) ?_
    by_cases hcm : 0 < cmpF (el l (k + 1)).beat b
    · have hla : lastB l b k = true := by unfold lastB; rw [decide_eq_true hcm]; simp
      have ego : goF l b (m' + 1) k a = onF (el l k).beat b (el l k).s a := by rw [goF, if_pos hla]
      rw [ego] at hgo
      simp (disch := omega) [hcm, t17, t15, t16, t2, t3, t4, t6, hr0', hr1']
      refine awCall_det' (SubFrac_i b (el l k).beat) (by simp; omega) ?_
      by_cases f1 : (subF b (el l k).beat).2 = 0
      case neg =>
        have e := onF_no (at_ := a) (s := (el l k).s) f1
        rw [e] at hgo
        simp (disch := omega) [f1, t4, t6, x3, hgo]
        exact (hP.app _).ret
      have e := onF_steps (at_ := a) (s := (el l k).s) f1
      simp (disch := omega) [f1, t4, t6]
      refine awDraw_L 8 [[],[],[1],[2,1],[0,3,2,1],[4,0,3,2,1],[5,4,0,3,2,1],[5,4,0,3,2,1],[6,5,4,0,3,2,1],[7,5,4,0,3,2,1,8,6]] [7] (by kernel_rfl) (by kernel_rfl) (by kernel_rfl) ?_
      simp (disch := omega) [f1, t4, t6]
      refine awCall_det' (whole_i (el l k).s) (by simp) ?_
      simp (disch := omega)
      refine awCall_det' (MulFrac_i (subF b (el l k).beat).1 ⟨(el l k).s, 1⟩) (by simp) ?_
      by_cases f2 : (mulF (subF b (el l k).beat).1 ⟨(el l k).s, 1⟩).2 = 0
      case neg =>
        rw [if_neg f2] at e
        rw [e] at hgo
        simp (disch := omega) [f2, t4, t6, x3, hgo]
        exact (hP.app _).ret
      rw [if_pos f2] at e
      simp (disch := omega) [f2, t4, t6, x3]
      refine awCall_det' (AddFrac_i a (mulF (subF b (el l k).beat).1 ⟨(el l k).s, 1⟩).1) (by simp; omega) ?_
      generalize addF a (mulF (subF b (el l k).beat).1 ⟨(el l k).s, 1⟩).1 = w at e ⊢
      simp (disch := omega) [t4, t6]
      generalize hM2 : (M1 ++ _ : Mem) = M2
      have hP2 : Pos M M2 (some ⟨id, off, none⟩) n c b a := by rw [← hM2]; exact hP.app _
      clear hM2
      rw [hP2.put rfl w.1]
      simp only [ow_some]
      have hP3 := hP2.upd w.1
      generalize M2.set (M.length + 3) (.live ⟨[iv w.1.n, iv w.1.d], true, true, 58, 2⟩) = M3 at hP3 ⊢
      rw [e] at hgo
      have f3 : w.2 = 0 ∨ w.2 ≠ 0 := by omega
      rcases f3 with f3 | f3
      · simp (disch := omega) [t4, t6, f3, hP3.ld, hgo]
        exact hP3.ret
      · simp (disch := omega) [t4, t6, f3, hP3.ld, hgo]
        exact hP3.ret
    have hla : ¬ lastB l b k = true := by unfold lastB; rw [decide_eq_false hcm, decide_eq_false (by omega)]; simp
    have ego : goF l b (m' + 1) k a = if (onF (el l k).beat (el l (k + 1)).beat (el l k).s a).2 ≠ 0 then onF (el l k).beat (el l (k + 1)).beat (el l k).s a else goF l b m' (k + 1) (onF (el l k).beat (el l (k + 1)).beat (el l k).s a).1 := by rw [goF, if_neg hla]
    rw [ego] at hgo
    simp (disch := omega) [hcm, t17, t15, t16, t2, t3, t4, t6, hr0', hr1', he', hldn, et, wrap_in]
    refine ⟨by omega, ?_⟩
    refine awCall_det' (SubFrac_i (el l (k + 1)).beat (el l k).beat) (by simp; omega) ?_
    by_cases f1 : (subF (el l (k + 1)).beat (el l k).beat).2 = 0
    case neg =>
      have e := onF_no (at_ := a) (s := (el l k).s) f1
      rw [e, if_pos f1] at hgo
      simp (disch := omega) [f1, t4, t6, x3, hgo]
      exact (hP.app _).ret
    have e := onF_steps (at_ := a) (s := (el l k).s) f1
    simp (disch := omega) [f1, t4, t6]
    refine awDraw_L 8 [[],[],[1],[2,1],[0,3,2,1],[4,0,3,2,1],[5,4,0,3,2,1],[5,4,0,3,2,1],[6,5,4,0,3,2,1],[7,5,4,0,3,2,1,8,6]] [7] (by kernel_rfl) (by kernel_rfl) (by kernel_rfl) ?_
    simp (disch := omega) [f1, t4, t6]
    refine awCall_det' (whole_i (el l k).s) (by simp) ?_
    simp (disch := omega)
    refine awCall_det' (MulFrac_i (subF (el l (k + 1)).beat (el l k).beat).1 ⟨(el l k).s, 1⟩) (by simp) ?_
    by_cases f2 : (mulF (subF (el l (k + 1)).beat (el l k).beat).1 ⟨(el l k).s, 1⟩).2 = 0
    case neg =>
      rw [if_neg f2] at e
      rw [e, if_pos f2] at hgo
      simp (disch := omega) [f2, t4, t6, x3, hgo]
      exact (hP.app _).ret
    rw [if_pos f2] at e
    simp (disch := omega) [f2, t4, t6, x3]
    refine awCall_det' (AddFrac_i a (mulF (subF (el l (k + 1)).beat (el l k).beat).1 ⟨(el l k).s, 1⟩).1) (by simp; omega) ?_
    generalize addF a (mulF (subF (el l (k + 1)).beat (el l k).beat).1 ⟨(el l k).s, 1⟩).1 = w at e ⊢
    simp (disch := omega) [t4, t6]
    generalize hM2 : (M1 ++ _ : Mem) = M2
    have hP2 : Pos M M2 (some ⟨id, off, none⟩) n c b a := by rw [← hM2]; exact hP.app _
    clear hM2
    rw [hP2.put rfl w.1]
    simp only [ow_some]
    have hP3 := hP2.upd w.1
    generalize M2.set (M.length + 3) (.live ⟨[iv w.1.n, iv w.1.d], true, true, 58, 2⟩) = M3 at hP3 ⊢
    rw [e] at hgo
    by_cases f3 : w.2 = 0
    · rw [if_neg (by omega)] at hgo
      simp (disch := omega) [t17, t4, t6, f3, hP3.ld, wrap_in]
      exact lpI (m' + 1 - 1) (by omega) ⟨k + 1, w.1, by omega, hP3, hgo, by simp, by simp [t15], by simp [t16], by simp [t2], by simp [t3], by simp [t4], by simp [t6]⟩
    · rw [if_pos (by omega)] at hgo
      simp (disch := omega) [t4, t6, f3, hP3.ld, hgo]
      exact hP3.ret
  · obtain rfl : k = n := by omega
    obtain rfl : m = 0 := by omega
    rw [show goF l b 0 k a = (a, 0) from rfl] at hgo
    simp [t17, t16, t6, t4, hlt, hP.ld, hgo]
    exact hP.ret
end Go.Proofs.Ytgaiejaegimilaa
