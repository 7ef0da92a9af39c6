/- Parts of the proof, together: Lists that grow by append. Contracts of the smallest functions, both packages. From a law's walk over abstract states to the row. Frac: records in memory, and the laws' helpers on them. Fractions: in plain words, and both packages' functions on them. Fractions: both packages' functions. No conditions. -/
import Derived.Test.YtbpaeonfebmomaaZzF7
import Derived.ProofKit
import Derived.OpenShut
import Derived.Deep.Slices
import Derived.Deep.Fields
import Derived.WalkLawsBesides
import Derived.Laws.StructEq
namespace Go.Proofs.Ytbpaeonfebmomaa
open Go.RowKit
set_option linter.unusedVariables false
set_option linter.unusedSimpArgs false
set_option maxRecDepth 100000
attribute [local simp] List.getElem?_cons_zero
attribute [local irreducible] awCond awCall awLoop awDraw ow retQ retC resQ Keeps
section
variable {α : Type} {k : Nat}
/-- The value v is a list in a row of one's own, from id B on, that append can grow. -/
def Acc (R : RecV α k) (e : TypeId) (B : Nat) (M : Mem) (v : Value) (l : List α) : Prop :=
  ∃ A n c, v = .slice A n c ∧ l.length = n ∧ ((A = none ∧ n = 0 ∧ c = 0) ∨ ∃ id t, A = some ⟨id, 0, none⟩ ∧ B ≤ id ∧ M[id]? = some (.live ⟨cellsL R l, true, t, e, k⟩))
/-- Below B nothing has turned. -/
def Same (B : Nat) (M M' : Mem) : Prop := M.length ≤ M'.length ∧ ∀ (i : Nat) s, i < B → M[i]? = some s → M'[i]? = some s
theorem Same.keeps {B : Nat} {M0 M M' : Mem} (h : Same B M M') (hk : Keeps M0 M) (hb : M0.length ≤ B) : Keeps M0 M' := by
  unfold Keeps
  exact fun i s hs => h.2 i s (by have := (List.getElem?_eq_some_iff.1 hs).1; omega) (hk.get hs)
theorem Acc.keeps {R : RecV α k} {e : TypeId} {B : Nat} {M M' : Mem} {v : Value} {l : List α} (h : Acc R e B M v l) (hk : Keeps M M') : Acc R e B M' v l := by
  obtain ⟨A, n, c, h1, h2, h3⟩ := h
  refine ⟨A, n, c, h1, h2, ?_⟩
  rcases h3 with h3 | ⟨id, t, h4, h5, h6⟩
  · exact .inl h3
  · exact .inr ⟨id, t, h4, h5, hk.get h6⟩
theorem Acc.src {P : Program} {R : RecV α k} {e tx : TypeId} {B : Nat} {M : Mem} {v : Value} {l : List α} (h : Acc R e B M v l) (ht : ∃ e', P.underlying tx = some (.slice e')) : srcOf P M k tx v = some (l.length, cellsL R l) := by
  obtain ⟨e', ht⟩ := ht
  obtain ⟨A, n, c, rfl, hl, hA⟩ := h
  subst hl
  rcases hA with ⟨rfl, h0, rfl⟩ | ⟨id, t, rfl, hid, hr⟩
  · obtain rfl := List.eq_nil_of_length_eq_zero h0
    simp [srcOf, ht, cellsL]
  · have e : cellsAt M id 0 (l.length * k) = some (cellsL R l) := by
      unfold cellsAt
      rw [hr]
      simp only
      rw [if_pos (by rw [cellsL_len]; omega), List.drop_zero, List.take_of_length_le (by rw [cellsL_len]; omega)]
    rcases l with _ | ⟨x, l⟩
    · simp [srcOf, ht, cellsL]
    · simp at e
      simp [srcOf, ht, e]
theorem Sl.src {P : Program} {R : RecV α k} {tx : TypeId} {M : Mem} {ad : Addr} {n c : Nat} {l : List α} (h : Sl R M (some ad) n l) (hk : 0 < k) (ht : ∃ e', P.underlying tx = some (.slice e')) : srcOf P M k tx (.slice (some ad) n c) = some (l.length, cellsL R l) := by
  obtain ⟨e', ht⟩ := ht
  have hl := h.1
  by_cases h0 : n = 0
  · subst h0
    obtain rfl := List.eq_nil_of_length_eq_zero hl
    simp [srcOf, ht, cellsL]
  · obtain ⟨id, off, e, he, hc⟩ := h.2 (by omega)
    injection e with e
    subst e
    have e := cellsAt_of hc (by rw [cellsL_len, hl]) (Nat.mul_pos (by omega) hk)
    simp [srcOf, ht, e, h0, hl]
theorem nil_eq {P : Program} {t e : TypeId} {q : Option Addr} {n c : Nat} (h : P.underlying t = some (.slice e)) : binV P .eql t (.slice q n c) (.slice none 0 0) = some (.bool q.isNone) := by
  cases q <;> simp [binV, eqV, h, slNil, eqNil]
theorem Acc.set_ne {R : RecV α k} {e : TypeId} {B : Nat} {M : Mem} {v : Value} {l : List α} {i : Nat} {s : Slot} (h : Acc R e B M v l) (hi : i < B) : Acc R e B (M.set i s) v l := by
  obtain ⟨A, n, c, h1, h2, h3⟩ := h
  refine ⟨A, n, c, h1, h2, ?_⟩
  rcases h3 with h3 | ⟨id, t, h4, h5, h6⟩
  · exact .inl h3
  · exact .inr ⟨id, t, h4, h5, by rw [List.getElem?_set_ne (by omega)]; exact h6⟩
theorem Acc.low {R : RecV α k} {e : TypeId} {B B' : Nat} {M : Mem} {v : Value} {l : List α} (h : Acc R e B M v l) (hb : B' ≤ B) : Acc R e B' M v l := by
  obtain ⟨A, n, c, h1, h2, h3⟩ := h
  refine ⟨A, n, c, h1, h2, ?_⟩
  rcases h3 with h3 | ⟨id, t, h4, h5, h6⟩
  · exact .inl h3
  · exact .inr ⟨id, t, h4, by omega, h6⟩
theorem Acc.sl {R : RecV α k} {e : TypeId} {B : Nat} {M : Mem} {v : Value} {l : List α} (h : Acc R e B M v l) : ∃ A n c, v = .slice A n c ∧ l.length = n ∧ Sl R M A n l ∧ oneV v = true := by
  obtain ⟨A, n, c, rfl, hl, hA⟩ := h
  refine ⟨A, n, c, rfl, hl, ?_, rfl⟩
  rcases hA with ⟨rfl, rfl, rfl⟩ | ⟨id, t, rfl, hid, hr⟩
  · exact ⟨hl, fun h => by omega⟩
  · exact ⟨hl, fun _ => ⟨id, 0, rfl, by simp [rowEsz, hr], fun j x hx => by simp [cellAt, hr, hx]⟩⟩
theorem Acc.nil {R : RecV α k} {e : TypeId} {B : Nat} {M : Mem} : Acc R e B M (.slice none 0 0) [] := ⟨none, 0, 0, rfl, rfl, .inl ⟨rfl, rfl, rfl⟩⟩
theorem Acc.append {P : Program} {R : RecV α k} {e t tx : TypeId} {B b by_ : Nat} {S : St} {v x : Value} {l : List α} {a : α} {K : Value → Mem → Prop} (h : Acc R e B S.M v l) (hb : b ≤ B) (hB : B ≤ S.M.length) (hk : 0 < k) (hq : qSlice P t = some (e, k, by_))
    (hz : (P.info? e).any (fun i => i.zero.any fun z => z.cells.size == k) = true) (hs : srcOf P S.M k tx x = some (1, R.row a)) (h1 : (R.row a).all (fun u => u.oneCell') = true) (hn : (l.length + 1) * by_ ≤ 140737488355328) (hm : l.length + 1 ≤ maxLen)
    (hK : ∀ v' M', Acc R e B M' v' (l ++ [a]) → Same B S.M M' → K v' M') : appendK P b S K t tx v x := by
  obtain ⟨A, n, c, rfl, hl, hA⟩ := h
  subst hl
  unfold appendK
  rw [hq]
  simp only [ow_some]
  rw [hs]
  simp only [ow_some]
  refine ⟨hz, h1, ?_⟩
  rcases hA with ⟨rfl, h0, rfl⟩ | ⟨id, tt, rfl, hid, hr⟩
  · obtain rfl := List.eq_nil_of_length_eq_zero h0
    refine ⟨⟨rfl, rfl⟩, by simpa using hn, by simpa using hm, fun h => by omega, fun _ => hK _ _ ⟨_, _, _, rfl, rfl, .inr ⟨S.M.length, false, rfl, hB, ?_⟩⟩ ⟨by simp, fun i s _ hs => ?_⟩⟩
    · rw [getElem?_snoc_eq]; simp [cellsL]
    · rw [List.getElem?_append_left (List.getElem?_eq_some_iff.1 hs).1]; exact hs
  · have hlt := (List.getElem?_eq_some_iff.1 hr).1
    simp only [hr]
    refine ⟨⟨trivial, by rw [cellsL_len], trivial, trivial⟩, hn, hm, fun h => by omega, fun _ => ?_⟩
    split
    · refine hK _ _ ⟨_, _, _, rfl, by simp, .inr ⟨S.M.length, false, rfl, hB, ?_⟩⟩ ⟨by simp, fun i s _ hs => ?_⟩
      · rw [getElem?_snoc_eq, cellsL_snoc]
      · rw [List.getElem?_append_left (List.getElem?_eq_some_iff.1 hs).1]; exact hs
    · refine ⟨by omega, hK _ _ ⟨_, _, _, rfl, by simp, .inr ⟨S.M.length, false, rfl, hB, ?_⟩⟩ ⟨by simp, fun i s hi hs => ?_⟩⟩
      · rw [List.getElem?_append_right (by simp), List.length_set, Nat.sub_self, cellsL_snoc]; rfl
      · rw [List.getElem?_append_left (by simpa using (List.getElem?_eq_some_iff.1 hs).1), List.getElem?_set_ne (by omega)]; exact hs
theorem Same.refl (B : Nat) (M : Mem) : Same B M M := ⟨Nat.le_refl _, fun _ _ _ h => h⟩
/-- The value does not lie in row i. -/
def Apart (v : Value) (i : Nat) : Prop := ∀ (A : Option Addr) (n c : Nat) (a : Addr), v = .slice A n c → A = some a → i ≠ a.block
theorem apart_new {M : Mem} {i : Nat} {s : Slot} {n c : Nat} (h : M[i]? = some s) : Apart (.slice (some ⟨M.length, 0, none⟩) n c) i := by
  intro A n' c' a e ea
  injection e with e1
  subst e1
  injection ea with ea
  subst ea
  have := (List.getElem?_eq_some_iff.1 h).1
  show i ≠ M.length
  omega
theorem Acc.apart {R : RecV α k} {e : TypeId} {B : Nat} {M : Mem} {v : Value} {l : List α} (h : Acc R e B M v l) {i : Nat} (hi : M.length ≤ i) : Apart v i := by
  obtain ⟨A, n, c, rfl, hl, hA⟩ := h
  intro A' n' c' a e ea
  injection e with e1
  subst e1
  rcases hA with ⟨rfl, _⟩ | ⟨id, t, rfl, hid, hr⟩
  · cases ea
  · injection ea with ea
    subst ea
    have := (List.getElem?_eq_some_iff.1 hr).1
    show i ≠ id
    omega
theorem Acc.extend2 {P : Program} {R : RecV α k} {e t tx : TypeId} {B b by_ : Nat} {S : St} {v x : Value} {l ls : List α} {K : Value → Mem → Prop} (h : Acc R e B S.M v l) (hb : b ≤ B) (hB : B ≤ S.M.length) (hq : qSlice P t = some (e, k, by_))
    (hz : (P.info? e).any (fun i => i.zero.any fun z => z.cells.size == k) = true) (hs : srcOf P S.M k tx x = some (ls.length, cellsL R ls)) (h1 : (cellsL R ls).all (fun u => u.oneCell') = true) (hn : (l.length + ls.length) * by_ ≤ 140737488355328) (hm : l.length + ls.length ≤ maxLen)
    (hK : ∀ v' M', Acc R e B M' v' (l ++ ls) → Same B S.M M' → (∀ (i : Nat) s, Apart v i → S.M[i]? = some s → M'[i]? = some s ∧ Apart v' i) → K v' M') : appendK P b S K t tx v x := by
  obtain ⟨A, n, c, rfl, hl, hA⟩ := h
  subst hl
  unfold appendK
  rw [hq]
  simp only [ow_some]
  rw [hs]
  simp only [ow_some]
  refine ⟨hz, h1, ?_⟩
  rcases hA with ⟨rfl, h0, rfl⟩ | ⟨id, tt, rfl, hid, hr⟩
  · obtain rfl := List.eq_nil_of_length_eq_zero h0
    refine ⟨⟨rfl, rfl⟩, by simpa using hn, by simpa using hm, fun h => ?_, fun _ => hK _ _ ⟨_, _, _, rfl, by simp, .inr ⟨S.M.length, false, rfl, hB, ?_⟩⟩ ⟨by simp, fun i s _ hs => ?_⟩ fun i s ha hs => ⟨?_, apart_new hs⟩⟩
    · obtain rfl := List.eq_nil_of_length_eq_zero h
      exact hK _ _ .nil (.refl _ _) fun i s ha hs => ⟨hs, ha⟩
    · rw [getElem?_snoc_eq]; simp
    · rw [List.getElem?_append_left (List.getElem?_eq_some_iff.1 hs).1]; exact hs
    · rw [List.getElem?_append_left (List.getElem?_eq_some_iff.1 hs).1]; exact hs
  · have hlt := (List.getElem?_eq_some_iff.1 hr).1
    simp only [hr]
    refine ⟨⟨trivial, by rw [cellsL_len], trivial, trivial⟩, hn, hm, fun h => ?_, fun _ => ?_⟩
    · obtain rfl := List.eq_nil_of_length_eq_zero h
      exact hK _ _ ⟨_, _, _, rfl, by simp, .inr ⟨id, tt, rfl, hid, by simpa using hr⟩⟩ (.refl _ _) fun i s ha hs => ⟨hs, ha⟩
    split
    · refine hK _ _ ⟨_, _, _, rfl, by simp, .inr ⟨S.M.length, false, rfl, hB, ?_⟩⟩ ⟨by simp, fun i s _ hs => ?_⟩ fun i s ha hs => ⟨?_, apart_new hs⟩
      · rw [getElem?_snoc_eq, cellsL_append]
      · rw [List.getElem?_append_left (List.getElem?_eq_some_iff.1 hs).1]; exact hs
      · rw [List.getElem?_append_left (List.getElem?_eq_some_iff.1 hs).1]; exact hs
    · refine ⟨by omega, hK _ _ ⟨_, _, _, rfl, by simp, .inr ⟨S.M.length, false, rfl, hB, ?_⟩⟩ ⟨by simp, fun i s hi hs => ?_⟩ fun i s ha hs => ⟨?_, apart_new hs⟩⟩
      · rw [List.getElem?_append_right (by simp), List.length_set, Nat.sub_self, cellsL_append]; rfl
      · rw [List.getElem?_append_left (by simpa using (List.getElem?_eq_some_iff.1 hs).1), List.getElem?_set_ne (by omega)]; exact hs
      · have := ha _ _ _ _ rfl rfl
        rw [List.getElem?_append_left (by simpa using (List.getElem?_eq_some_iff.1 hs).1), List.getElem?_set_ne (Ne.symm (by simpa using this))]; exact hs
theorem Acc.extend {P : Program} {R : RecV α k} {e t tx : TypeId} {B b by_ : Nat} {S : St} {v x : Value} {l ls : List α} {K : Value → Mem → Prop} (h : Acc R e B S.M v l) (hb : b ≤ B) (hB : B ≤ S.M.length) (hq : qSlice P t = some (e, k, by_))
    (hz : (P.info? e).any (fun i => i.zero.any fun z => z.cells.size == k) = true) (hs : srcOf P S.M k tx x = some (ls.length, cellsL R ls)) (h1 : (cellsL R ls).all (fun u => u.oneCell') = true) (hn : (l.length + ls.length) * by_ ≤ 140737488355328) (hm : l.length + ls.length ≤ maxLen)
    (hK : ∀ v' M', Acc R e B M' v' (l ++ ls) → Same B S.M M' → K v' M') : appendK P b S K t tx v x := h.extend2 hb hB hq hz hs h1 hn hm fun v' M' a b _ => hK v' M' a b
theorem Acc.append2 {P : Program} {R : RecV α k} {e t tx : TypeId} {B b by_ : Nat} {S : St} {v x : Value} {l : List α} {a : α} {K : Value → Mem → Prop} (h : Acc R e B S.M v l) (hb : b ≤ B) (hB : B ≤ S.M.length) (_hk : 0 < k) (hq : qSlice P t = some (e, k, by_))
    (hz : (P.info? e).any (fun i => i.zero.any fun z => z.cells.size == k) = true) (hs : srcOf P S.M k tx x = some (1, R.row a)) (h1 : (R.row a).all (fun u => u.oneCell') = true) (hn : (l.length + 1) * by_ ≤ 140737488355328) (hm : l.length + 1 ≤ maxLen)
    (hK : ∀ v' M', Acc R e B M' v' (l ++ [a]) → Same B S.M M' → (∀ (i : Nat) s, Apart v i → S.M[i]? = some s → M'[i]? = some s ∧ Apart v' i) → K v' M') : appendK P b S K t tx v x :=
  h.extend2 (ls := [a]) hb hB hq hz (by rw [hs]; simp [cellsL]) (by simpa [cellsL] using h1) (by simpa using hn) (by simpa using hm) hK
theorem cloneX {P : Program} {R : RecV α k} {e t : TypeId} {B b by_ : Nat} {S : St} {ad : Addr} {n c : Nat} {l : List α} {K : Value → Mem → Prop} (h : Sl R S.M (some ad) n l) (hk : 0 < k) (hA : Acc R e B S.M (.slice (some ⟨B, 0, none⟩) 0 0) []) (hb : b ≤ B) (hB : B ≤ S.M.length) (hq : qSlice P t = some (e, k, by_)) (ht : ∃ e', P.underlying t = some (.slice e'))
    (hz : (P.info? e).any (fun i => i.zero.any fun z => z.cells.size == k) = true) (h1 : (cellsL R l).all (fun u => u.oneCell') = true) (hn : n * by_ ≤ 140737488355328) (hm : n ≤ maxLen) (hK : ∀ v' M', Acc R e B M' v' l → Same B S.M M' → K v' M') : appendK P b S K t t (.slice (some ⟨B, 0, none⟩) 0 0) (.slice (some ad) n c) := by
  have hl := h.1
  refine hA.extend (ls := l) hb hB hq hz (h.src hk ht) h1 (by simpa [hl] using hn) (by simpa [hl] using hm) ?_
  intro v' M' a b
  exact hK v' M' (by simpa using a) b
theorem Acc.fresh {R : RecV α k} {e : TypeId} {M M' : Mem} {v : Value} {l : List α} (h : Acc R e M.length M' v l) (hn : l.length ≤ 1099511627776) (hk : Keeps M M') : Fresh R M v M' l := by
  obtain ⟨A, n, c, rfl, hl, hA⟩ := h
  refine ⟨A, n, c, rfl, by omega, ?_⟩
  rcases hA with ⟨rfl, rfl, rfl⟩ | ⟨id, t, rfl, hid, hr⟩
  · exact ⟨⟨hl, fun h => by omega⟩, by simp, fun h => by omega, hk⟩
  · exact ⟨⟨hl, fun _ => ⟨id, 0, rfl, by simp [rowEsz, hr], fun j x hx => by simp [cellAt, hr, hx]⟩⟩, fun a e => by injection e with e; subst e; exact hid, fun _ => ⟨_, _, _, rfl, hr, rfl⟩, hk⟩
theorem OwL.nil {R : RecV α k} {lo hi : Nat} {M : Mem} : OwL R lo hi M (.slice none 0 0) [] := by
  refine ⟨none, 0, 0, rfl, by omega, ⟨rfl, fun h => by omega⟩, ?_, ?_⟩
  · intro a h; cases h
  · intro h; omega
end
end Go.Proofs.Ytbpaeonfebmomaa

namespace Go.Proofs.Ytbpaeonfebmomaa
open Go.RowKit
set_option linter.unusedVariables false
set_option linter.unusedSimpArgs false
set_option maxRecDepth 100000
attribute [local simp] List.getElem?_cons_zero
attribute [local irreducible] awCond awCall awLoop awDraw ow retQ retC resQ Keeps
theorem within_a {M : Mem} (n lo hi : Int) : Det Try.prog M.length 31 [iv n, iv lo, iv hi] M (.bool (inB n lo hi)) M := by
  first | (refine det_fn Try.func31 rfl Try.ntmps31 Try.results31 rfl rfl rfl (by simp) ?_) | (refine det_fnC Try.func31 rfl Try.ntmps31 Try.results31 rfl rfl (by simp) ?_)
  simp
  repeat' (first | (refine guardV_split ?_ ?_ <;> intro _) | (simp [*]))
  all_goals (simp_all [inB, Keeps.refl] <;> omega)
theorem l00In_a {M : Mem} (n lo hi : Int) : Det Try.prog M.length 40 [iv n, iv lo, iv hi] M (.bool (inB n lo hi)) M := by
  first | (refine det_fn Try.func40 rfl Try.ntmps40 Try.results40 rfl rfl rfl (by simp) ?_) | (refine det_fnC Try.func40 rfl Try.ntmps40 Try.results40 rfl rfl (by simp) ?_)
  simp
  repeat' (first | (refine guardV_split ?_ ?_ <;> intro _) | (simp [*]))
  all_goals (simp_all [inB, Keeps.refl] <;> omega)
theorem isKey_a {M : Mem} (n : Int) : Det Try.prog M.length 92 [iv n] M (.bool (inB n 0 127)) M := by
  first | (refine det_fn Try.func92 rfl Try.ntmps92 Try.results92 rfl rfl rfl (by simp) ?_) | (refine det_fnC Try.func92 rfl Try.ntmps92 Try.results92 rfl rfl (by simp) ?_)
  simp
  refine awCall_det' (within_a _ _ _) (by simp) ?_
  simp [Keeps.refl]
end Go.Proofs.Ytbpaeonfebmomaa

namespace Go.Proofs.Ytbpaeonfebmomaa
open Go.ChangeShapes Go.WideShapes Go.ChangeAt Go.RowKit Go.Deep
set_option linter.unusedVariables false
set_option linter.unusedSimpArgs false
set_option maxRecDepth 100000

def ints (l : List Int) : List Value := l.map iv
def gi (l : List Int) (k : Nat) : Int := l.getD k 0
theorem ints_len (l : List Int) : (ints l).length = l.length := by simp [ints]
theorem ints_get {l : List Int} {k : Nat} (h : k < l.length) : (ints l)[k]? = some (iv (gi l k)) := by
  simp [ints, gi, h]
/-- The slice .slice A n c reads in w as the cells xs, s cells an element. -/
def Rd (w : World) (s : Nat) (A : Option Addr) (n c : Nat) (xs : List Value) : Prop :=
  xs.length = n * s ∧ n ≤ c ∧ c ≤ maxLen ∧ (0 < n → ∃ ad : Addr, A = some ad ∧ ad.block < w.heap.size ∧ ∀ j u, xs[j]? = some u → w.cell? (ad.add j) = some u)
theorem add_add' (a : Addr) (i j : Nat) : (a.add i).add j = a.add (i + j) := by
  unfold Addr.add
  by_cases hi : i = 0 <;> by_cases hj : j = 0 <;> simp [hi, hj, Nat.add_assoc]

theorem own_knob : ownKnob Try.prog.godebug = none := by kernel_rfl
theorem laid_out : laidOutB Try.prog = true := by kernel_rfl

section
variable {H : Type} {enc : TypeId × Value → H}
theorem trodAll_stays {W W' : World} {sp : Nat → Bool} (hb : Below W.heap.size W W') : ∀ (ts : List TypeId) (vs : List Value) (ds : List (DataW H)) (ps : List MemPlace),
    (∀ t ∈ ts, Try.prog.readableRec t = true ∧ t < Try.prog.types.size) → DataW.TrodAll enc Try.prog W 0 (fun _ => true) true ts vs ds ps → (∀ x ∈ ps, x.block < W.heap.size) → (∀ x ∈ ps, sp x.block = true) →
    DataW.TrodAll enc Try.prog W' 0 sp true ts vs ds ps
  | [], [], [], _, _, h, _, _ => h
  | t :: ts, v :: vs, d :: ds, ps, ht, h, hl, hs => by
    obtain ⟨p, q, h1, h2, rfl⟩ := h
    refine ⟨p, q, WideElems.Trod_stays laid_out (ht t (by simp)).1 (ht t (by simp)).2 h1 (fun x hx => hb.same (hl x (by simp [hx]))) (fun x hx => hs x (by simp [hx])), ?_, rfl⟩
    exact trodAll_stays hb ts vs ds q (fun t' h' => ht t' (by simp [h'])) h2 (fun x hx => hl x (by simp [hx])) (fun x hx => hs x (by simp [hx]))
  | [], [], _ :: _, _, _, h, _, _ => h.elim
  | [], _ :: _, _, _, _, h, _, _ => h.elim
  | _ :: _, [], _, _, _, h, _, _ => h.elim
  | _ :: _, _ :: _, [], _, _, h, _, _ => h.elim

/-- The row's post out of the walk's end, for a law: it returned true, and nothing old has turned. -/
theorem law_post {f : Func} {s : ChangeSpec} {W W' : World} {args : Array Value} {ds gs : List (DataW H)} {before : List MemPlace}
    (hvars : s.vars = []) (hres : f.resultTypes = #[4]) (hread0 : (f.params.toList.all fun t => Try.prog.readableRec t && decide (t < Try.prog.types.size)) = true)
    (hs : s.fn H ds = { results := [.lit (.bool true)], args := ds })
    (hW : DataW.Whole enc Try.prog f.params.toList s.vars false W args.toList ds gs before) (hb : Below W.heap.size W W') :
    s.post enc Try.prog f false true false false W args (.bool true) W' := by
  have hread : ∀ t ∈ f.params.toList, Try.prog.readableRec t = true ∧ t < Try.prog.types.size := fun t ht => by
    have := List.all_eq_true.1 hread0 t ht
    simpa using this
  have hlt : ∀ p ∈ before, p.block < W.heap.size := fun p hp => hW.lt p hp
  have hW0 := hW
  obtain ⟨p, q, hA, hV, rfl, hfz, hnd⟩ := hW
  rw [hvars] at hV
  obtain ⟨rfl, rfl⟩ := trodVars_none hV
  rw [List.append_nil] at hlt hW0
  have hargs : ∀ sp : Nat → Bool, (∀ x ∈ p, sp x.block = true) → DataW.TrodAll enc Try.prog W' 0 sp true f.params.toList args.toList ds p :=
    fun sp hsp => trodAll_stays hb _ _ _ _ hread hA hlt hsp
  have hr : ∀ (b : Nat) (sp : Nat → Bool) (hd : Bool), DataW.TrodAll enc Try.prog W' b sp hd f.resultTypes.toList ((Value.bool true).resultList f.resultTypes.size) [.lit (.bool true)] [] := by
    intro b sp hd
    rw [hres]
    exact trodAll_mk1 (shut_bool Try.underlying4 _)
  refine ⟨ds, [], p, [], p, [], hW0, ?_, ?_, ?_, World.keptBut_mono (fun x hx => ⟨hx, ?_⟩) (hb.frame (· ∈ p)), fun h => by cases h⟩
  · rw [List.append_nil, hs]; exact hr _ _ _
  · rw [List.append_nil, hs]; exact hargs _ (fun x hx => by simpa using hlt x hx)
  · rw [hvars]; simp only [hs, List.append_nil]; rfl
  · exact Or.inr (by simpa using hx)
/-- Is the type made of int64 alone (cells that its fields cover)? -/
noncomputable def flatB : Nat → TypeId → Bool
  | 0, _ => false
  | d + 1, t =>
    match Try.prog.underlying t with
    | some (.int .i64) => true
    | some (.struct fs) => (fs.toList.all fun f => flatB d f.type) && ((List.range (Try.prog.cellsOf t)).all fun j => fs.toList.any fun f => decide (f.offset ≤ j) && decide (j < f.offset + Try.prog.cellsOf f.type))
    | _ => false
theorem trod_flat : ∀ (d : Nat) (t : TypeId), flatB d t = true → ∀ {W : World} {base : Nat} {spare : Nat → Bool} {held : Bool} {n : Nat} {cs : List Value} {x : DataW H × List MemPlace},
    DataW.trod enc Try.prog W base spare held n t cs = some x → ∀ v ∈ cs, ∃ z : Int, v = iv z ∧ (Lit.int .i64 z).wf = true
  | 0, _, h => by simp [flatB] at h
  | d + 1, t, h => by
    rename_i W base spare held n cs x
    intro hx v hv
    unfold flatB at h
    split at h
    · rename_i ht
      obtain ⟨z, rfl, -, hw⟩ := DataW.trod_int ht hx
      simp only [List.mem_singleton] at hv
      exact ⟨z, hv, hw⟩
    · rename_i fs ht
      simp only [Bool.and_eq_true, List.all_eq_true, List.any_eq_true, decide_eq_true_eq] at h
      obtain ⟨h1, h2⟩ := h
      obtain ⟨xs, m, -, -, hlen, hxl, hf⟩ := DataW.trod_struct ht hx
      obtain ⟨j, hj, rfl⟩ := List.getElem_of_mem hv
      obtain ⟨f, hfm, hlo, hhi⟩ := h2 j (by rw [List.mem_range]; omega)
      obtain ⟨i, hi, rfl⟩ := List.getElem_of_mem hfm
      have hi' : i < fs.size := by simpa using hi
      have hfi : fs[i]? = some fs.toList[i] := by simp [hi']
      have hy := hf i _ hfi
      have hxi : xs[i]? = some xs[i] := List.getElem?_eq_getElem (by omega)
      rw [hxi] at hy
      refine trod_flat d _ (h1 _ hfm) hy _ ?_
      have hs : ((cs.drop fs.toList[i].offset).take (Try.prog.cellsOf fs.toList[i].type))[j - fs.toList[i].offset]? = some cs[j] := by
        rw [List.getElem?_take, if_pos (by omega), List.getElem?_drop, show fs.toList[i].offset + (j - fs.toList[i].offset) = j by omega, List.getElem?_eq_getElem hj]
      exact List.mem_of_getElem? hs
    · simp at h

theorem ints_of {cs : List Value} (h : ∀ v ∈ cs, ∃ z : Int, v = iv z ∧ (Lit.int .i64 z).wf = true) : ∃ zs : List Int, cs = ints zs ∧ ∀ z ∈ zs, (Lit.int .i64 z).wf = true := by
  induction cs with
  | nil => exact ⟨[], rfl, by simp⟩
  | cons v cs ih =>
    obtain ⟨z, rfl, hz⟩ := h _ (List.mem_cons_self)
    obtain ⟨zs, rfl, hzs⟩ := ih fun v hv => h v (List.mem_cons_of_mem _ hv)
    exact ⟨z :: zs, rfl, by simpa using ⟨hz, hzs⟩⟩

/-- An argument that is a struct of int64 alone. -/
theorem open_flat {W : World} {base : Nat} {t : TypeId} {fs : Array Field} {v : Value} {d : DataW H} {p : List MemPlace} (ht : Try.prog.underlying t = some (.struct fs)) (hB : flatB 5 t = true) (hv : Value.okWide Try.prog W .any base t v)
    (h : DataW.Trod enc Try.prog W 0 (fun _ => true) true t v d p) : ∃ zs : List Int, v = .agg (ints zs).toArray ∧ zs.length = Try.prog.cellsOf t ∧ ∀ z ∈ zs, (Lit.int .i64 z).wf = true := by
  obtain ⟨cs, rfl, hsz⟩ := okWide_struct ht hv
  obtain ⟨fuel, hf⟩ := h
  obtain ⟨zs, hz, hw⟩ := ints_of (trod_flat 5 t hB hf)
  refine ⟨zs, ?_, ?_, hw⟩
  · have : cs.toList = ints zs := hz
    rw [← this]
  · have := congrArg List.length hz
    rw [ints_len] at this
    rw [← this, ← hsz]
    rfl

/-- An argument that is a slice of structs of int64 alone. -/
theorem open_flats {W : World} {base : Nat} {t e : TypeId} {k : Nat} {v : Value} {d : DataW H} {p q : List MemPlace} (ht : Try.prog.underlying t = some (.slice e)) (hB : flatB 5 e = true) (hk : Try.prog.cellsOf e = k) (hk0 : 0 < k)
    (hlt : ∀ x ∈ q, x.block < W.heap.size) (hv : Value.okWide Try.prog W .any base t v)
    (h : DataW.Trod enc Try.prog W 0 (fun _ => true) true t v d p) (hp : ∀ x ∈ p, x ∈ q) : ∃ (A : Option Addr) (n c : Nat) (zs : List Int), v = .slice A n c ∧ Rd W k A n c (ints zs) ∧ (A = none → n = 0 ∧ c = 0) ∧ ∀ z ∈ zs, (Lit.int .i64 z).wf = true := by
  obtain ⟨a0, len, cap, rfl⟩ := okWide_slice ht hv
  obtain ⟨fuel, hf⟩ := h
  rcases open_slice ht hf with ⟨hcs, hx⟩ | ⟨a, len', cap', m, n, D, Pl, hcs, hb, hl, hm, hmm, hx, hi⟩
  · have hcs' : [Value.slice a0 len cap] = [.slice none 0 0] := hcs
    injection hcs' with hcs''
    injection hcs'' with h1 h2 h3
    subst h1; subst h2; subst h3
    exact ⟨_, _, _, [], rfl, ⟨by simp [ints], Nat.le_refl _, Nat.zero_le _, fun h => absurd h (by omega)⟩, fun _ => ⟨rfl, rfl⟩, by simp⟩
  · have hcs' : [Value.slice a0 len cap] = [.slice (some a) len' cap'] := hcs
    injection hcs' with hcs''
    injection hcs'' with h1 h2 h3
    subst h1; subst h2; subst h3
    simp only [if_pos] at hmm
    subst hmm
    rw [hk] at hx hi
    have each : ∀ i, i < len → ∃ zs : List Int, zs.length = k ∧ (∀ z ∈ zs, (Lit.int .i64 z).wf = true) ∧ ∀ j, j < k → W.cell? ((a.add (i * k)).add j) = some (iv (gi zs j)) := by
      intro i hil
      obtain ⟨cs', hc, ht'⟩ := hi i (by omega)
      obtain ⟨_, hcl, hat⟩ := World.cells?_some hc
      obtain ⟨zs, rfl, hw⟩ := ints_of (trod_flat 5 e hB ht')
      rw [ints_len] at hcl
      exact ⟨zs, hcl, hw, fun j hj => by rw [hat j hj, ints_get (by omega)]⟩
    have all : ∀ n', n' ≤ len → ∃ zs : List Int, zs.length = n' * k ∧ (∀ z ∈ zs, (Lit.int .i64 z).wf = true) ∧ ∀ j, j < n' * k → W.cell? (a.add j) = some (iv (gi zs j)) := by
      intro n'
      induction n' with
      | zero => exact fun _ => ⟨[], by simp, by simp, fun j hj => by omega⟩
      | succ n' ih =>
        intro hn'
        obtain ⟨zs, hz1, hz2, hz3⟩ := ih (by omega)
        obtain ⟨ys, hy1, hy2, hy3⟩ := each n' (by omega)
        refine ⟨zs ++ ys, by rw [List.length_append, hz1, hy1, Nat.add_mul, Nat.one_mul], fun z hz => ?_, fun j hj => ?_⟩
        · rcases List.mem_append.1 hz with h | h
          · exact hz2 z h
          · exact hy2 z h
        · rw [Nat.add_mul, Nat.one_mul] at hj
          by_cases hjl : j < n' * k
          · rw [hz3 j hjl]
            unfold gi
            simp only [List.getD_eq_getElem?_getD]
            rw [List.getElem?_append_left (by omega)]
          · have := hy3 (j - n' * k) (by omega)
            rw [add_add', show n' * k + (j - n' * k) = j by omega] at this
            rw [this]
            unfold gi
            simp only [List.getD_eq_getElem?_getD]
            rw [List.getElem?_append_right (by omega), hz1]
    obtain ⟨zs, hz1, hz2, hz3⟩ := all len (Nat.le_refl _)
    refine ⟨_, _, _, zs, rfl, ⟨by rw [ints_len, hz1], hl, hm, fun hn => ⟨a, rfl, ?_, fun j u hu => ?_⟩⟩, (fun h => nomatch h), hz2⟩
    · injection hx with _ hp'
      have hmem : ∃ x ∈ p, x.block = a.block := by
        refine ⟨.cell a.block (a.off + 0), ?_, rfl⟩
        rw [hp']
        refine List.mem_append_left _ ?_
        unfold MemPlace.row
        exact List.mem_map.2 ⟨0, by rw [List.mem_range]; exact Nat.mul_pos (by omega) hk0, rfl⟩
      obtain ⟨x, hx1, hx2⟩ := hmem
      rw [← hx2]
      exact hlt x (hp x hx1)
    · have hj : j < len * k := by
        have := (List.getElem?_eq_some_iff.1 hu).1
        rw [ints_len, hz1] at this
        exact this
      rw [hz3 j hj]
      rw [ints_get (by omega)] at hu
      exact hu
/-- An argument that is a slice of structs of int64 alone. -/
theorem open_flats_t {W : World} {t e : TypeId} {k : Nat} {v : Value} {d : DataW H} {p q : List MemPlace} (ht : Try.prog.underlying t = some (.slice e)) (hB : flatB 5 e = true) (hk : Try.prog.cellsOf e = k) (hk0 : 0 < k)
    (hlt : ∀ x ∈ q, x.block < W.heap.size) {fuel : Nat}
    (hf : DataW.trod enc Try.prog W 0 (fun _ => true) true fuel t [v] = some (d, p)) (hp : ∀ x ∈ p, x ∈ q) : ∃ (A : Option Addr) (n c : Nat) (zs : List Int), v = .slice A n c ∧ Rd W k A n c (ints zs) ∧ (A = none → n = 0 ∧ c = 0) ∧ ∀ z ∈ zs, (Lit.int .i64 z).wf = true := by
  obtain ⟨a0, len, cap, rfl⟩ : ∃ a0 len cap, v = .slice a0 len cap := by
    rcases open_slice ht hf with ⟨hcs, _⟩ | ⟨a, len', cap', m, n, D, Pl, hcs, _⟩
    · injection hcs with hcs
      exact ⟨_, _, _, hcs⟩
    · injection hcs with hcs
      exact ⟨_, _, _, hcs⟩
  rcases open_slice ht hf with ⟨hcs, hx⟩ | ⟨a, len', cap', m, n, D, Pl, hcs, hb, hl, hm, hmm, hx, hi⟩
  · have hcs' : [Value.slice a0 len cap] = [.slice none 0 0] := hcs
    injection hcs' with hcs''
    injection hcs'' with h1 h2 h3
    subst h1; subst h2; subst h3
    exact ⟨_, _, _, [], rfl, ⟨by simp [ints], Nat.le_refl _, Nat.zero_le _, fun h => absurd h (by omega)⟩, fun _ => ⟨rfl, rfl⟩, by simp⟩
  · have hcs' : [Value.slice a0 len cap] = [.slice (some a) len' cap'] := hcs
    injection hcs' with hcs''
    injection hcs'' with h1 h2 h3
    subst h1; subst h2; subst h3
    simp only [if_pos] at hmm
    subst hmm
    rw [hk] at hx hi
    have each : ∀ i, i < len → ∃ zs : List Int, zs.length = k ∧ (∀ z ∈ zs, (Lit.int .i64 z).wf = true) ∧ ∀ j, j < k → W.cell? ((a.add (i * k)).add j) = some (iv (gi zs j)) := by
      intro i hil
      obtain ⟨cs', hc, ht'⟩ := hi i (by omega)
      obtain ⟨_, hcl, hat⟩ := World.cells?_some hc
      obtain ⟨zs, rfl, hw⟩ := ints_of (trod_flat 5 e hB ht')
      rw [ints_len] at hcl
      exact ⟨zs, hcl, hw, fun j hj => by rw [hat j hj, ints_get (by omega)]⟩
    have all : ∀ n', n' ≤ len → ∃ zs : List Int, zs.length = n' * k ∧ (∀ z ∈ zs, (Lit.int .i64 z).wf = true) ∧ ∀ j, j < n' * k → W.cell? (a.add j) = some (iv (gi zs j)) := by
      intro n'
      induction n' with
      | zero => exact fun _ => ⟨[], by simp, by simp, fun j hj => by omega⟩
      | succ n' ih =>
        intro hn'
        obtain ⟨zs, hz1, hz2, hz3⟩ := ih (by omega)
        obtain ⟨ys, hy1, hy2, hy3⟩ := each n' (by omega)
        refine ⟨zs ++ ys, by rw [List.length_append, hz1, hy1, Nat.add_mul, Nat.one_mul], fun z hz => ?_, fun j hj => ?_⟩
        · rcases List.mem_append.1 hz with h | h
          · exact hz2 z h
          · exact hy2 z h
        · rw [Nat.add_mul, Nat.one_mul] at hj
          by_cases hjl : j < n' * k
          · rw [hz3 j hjl]
            unfold gi
            simp only [List.getD_eq_getElem?_getD]
            rw [List.getElem?_append_left (by omega)]
          · have := hy3 (j - n' * k) (by omega)
            rw [add_add', show n' * k + (j - n' * k) = j by omega] at this
            rw [this]
            unfold gi
            simp only [List.getD_eq_getElem?_getD]
            rw [List.getElem?_append_right (by omega), hz1]
    obtain ⟨zs, hz1, hz2, hz3⟩ := all len (Nat.le_refl _)
    refine ⟨_, _, _, zs, rfl, ⟨by rw [ints_len, hz1], hl, hm, fun hn => ⟨a, rfl, ?_, fun j u hu => ?_⟩⟩, (fun h => nomatch h), hz2⟩
    · injection hx with _ hp'
      have hmem : ∃ x ∈ p, x.block = a.block := by
        refine ⟨.cell a.block (a.off + 0), ?_, rfl⟩
        rw [hp']
        refine List.mem_append_left _ ?_
        unfold MemPlace.row
        exact List.mem_map.2 ⟨0, by rw [List.mem_range]; exact Nat.mul_pos (by omega) hk0, rfl⟩
      obtain ⟨x, hx1, hx2⟩ := hmem
      rw [← hx2]
      exact hlt x (hp x hx1)
    · have hj : j < len * k := by
        have := (List.getElem?_eq_some_iff.1 hu).1
        rw [ints_len, hz1] at this
        exact this
      rw [hz3 j hj]
      rw [ints_get (by omega)] at hu
      exact hu

end

/-- A memory of rows that are only read. -/
structure Ro (M : Mem) (μ : Map) (w : World) : Prop where
  sim : Sim M μ w
  ro : ∀ (i : Nat) r, M[i]? = some (.live r) → r.own = false
/-- Arguments so far: they have abstract forms. -/
structure AR (w : World) (M : Mem) (μ : Map) (vs cs : List Value) : Prop where
  ro : Ro M μ w
  rel : LRel M μ vs cs
def Arg (w : World) (c : Value) (K : Mem → Value → Prop) : Prop :=
  ∀ M μ, Ro M μ w → ∃ L μ' v, Ro (M ++ L) μ' w ∧ VRel (M ++ L) μ' v c ∧ K (M ++ L) v ∧ ∀ x y, VRel M μ x y → VRel (M ++ L) μ' x y
theorem AR.nil (w : World) (hG : gOn = true → GOk w.heap[gB]? ∧ gB < w.heap.size := by intro h; exact absurd h (by decide)) : AR w [] ⟨fun _ => ⟨0, 0, none⟩, fun _ => 0⟩ [] [] := ⟨⟨⟨fun id r h => by simp at h, fun i j r s h => by simp at h, fun hon => ⟨(hG hon).1, (hG hon).2, fun i r h => by simp at h⟩, fun id r es h => by simp at h, fun i j r es es' h => by simp at h⟩, fun i r h => by simp at h⟩, .nil⟩
theorem LRel.snoc {M : Mem} {μ : Map} {x y : Value} {xs ys : List Value} (h : LRel M μ xs ys) (h' : VRel M μ x y) : LRel M μ (xs ++ [x]) (ys ++ [y]) := by
  refine ⟨by simp [h.1], fun i u v hu hv => ?_⟩
  rcases getElem?_snoc_inv hu with ⟨hi, hu⟩ | ⟨rfl, rfl⟩
  · rw [getElem?_snoc_lt (by rw [← h.1]; exact hi)] at hv
    exact h.2 i u v hu hv
  · rw [h.1, getElem?_snoc_eq] at hv
    injection hv with hv
    subst hv
    exact h'
theorem AR.next {w : World} {M : Mem} {μ : Map} {vs cs : List Value} {c : Value} {K : Mem → Value → Prop} (h : AR w M μ vs cs) (ha : Arg w c K) :
    ∃ L μ' v, AR w (M ++ L) μ' (vs ++ [v]) (cs ++ [c]) ∧ K (M ++ L) v := by
  obtain ⟨L, μ', v, h1, h2, h3, h4⟩ := ha M μ h.ro
  exact ⟨L, μ', v, ⟨h1, LRel.snoc ⟨h.rel.1, fun i x y hx hy => h4 _ _ (h.rel.2 i x y hx hy)⟩ h2⟩, h3⟩
theorem Arg.plain {w : World} {c : Value} (h : plainV c = true) : Arg w c fun _ v => v = c :=
  fun M μ hr => ⟨[], μ, c, by simpa using hr, .plain h, rfl, fun x y h => by simpa using h⟩
theorem VRel.self_plain {M : Mem} {μ : Map} {cs : List Value} (h : ∀ v ∈ cs, plainV v = true) : LRel M μ cs cs := ⟨rfl, fun i x y hx hy => by
  rw [hx] at hy; injection hy with hy; subst hy
  exact .plain (h _ (List.mem_of_getElem? hx))⟩
theorem Arg.agg {w : World} {cs : List Value} (h : ∀ v ∈ cs, plainV v = true) : Arg w (.agg cs.toArray) fun _ v => v = .agg cs.toArray :=
  fun M μ hr => ⟨[], μ, _, by simpa using hr, VRel.mk_agg (VRel.self_plain h), rfl, fun x y h => by simpa using h⟩
/-- One more row that is only read. -/
theorem Ro.row {M : Mem} {μ : Map} {w : World} (h : Ro M μ w) {a : Addr} {cells : List Value} {e : TypeId} {k : Nat} (hlt : a.block < w.heap.size)
    (hc : ∀ (j : Nat) c, cells[j]? = some c → ∃ d, w.cell? (a.add j) = some d ∧ VRel M μ c d) :
    Ro (M ++ [.live ⟨cells, false, false, e, k⟩]) (μ.set M.length a 0) w ∧ ∀ x y, VRel M μ x y → VRel (M ++ [.live ⟨cells, false, false, e, k⟩]) (μ.set M.length a 0) x y := by
  have hv : ∀ x y, VRel M μ x y → VRel (M ++ [.live ⟨cells, false, false, e, k⟩]) (μ.set M.length a 0) x y := fun x y hx => hx.same fun i s hs _ => by
    have hi := (List.getElem?_eq_some_iff.1 hs).1
    exact ⟨by rw [getElem?_snoc_lt hi]; exact hs, Map.set_at_ne (by omega), Map.set_room_ne (by omega)⟩
  have hro : ∀ (i : Nat) r, (M ++ [.live ⟨cells, false, false, e, k⟩])[i]? = some (.live r) → r.own = false := fun i r hr => by
    rcases getElem?_snoc_inv hr with ⟨hi, hr⟩ | ⟨rfl, he⟩
    · exact h.ro i r hr
    · injection he with he; subst he; rfl
  refine ⟨⟨⟨fun id r hr => ?_, fun i j r s hr _ _ ho => ?_, fun hon => ⟨(h.sim.glob hon).1, (h.sim.glob hon).2.1, fun i r hr ho => by rw [hro i r hr] at ho; cases ho⟩, h.sim.mapsKeep (fun _ _ _ => rfl) (fun id r es hr => by
    rcases getElem?_snoc_inv hr with ⟨_, h1⟩ | ⟨_, h1⟩
    · exact h1
    · cases h1)⟩, hro⟩, hv⟩
  · rcases getElem?_snoc_inv hr with ⟨hi, hr⟩ | ⟨rfl, he⟩
    · have hR := h.sim.row id r hr
      have hat : (μ.set M.length a 0).at_ id = μ.at_ id := Map.set_at_ne (by omega)
      have ho := h.ro id r hr
      refine ⟨by rw [hat]; exact hR.lt, fun j c hj => ?_, fun ho' => by rw [ho] at ho'; cases ho'⟩
      obtain ⟨d, h1, h2⟩ := hR.cell j c hj
      rw [hat]
      exact ⟨d, h1, hv _ _ h2⟩
    · injection he with he
      subst he
      have hat : (μ.set M.length a 0).at_ M.length = a := by simp [Map.set]
      refine ⟨by rw [hat]; exact hlt, fun j c hj => ?_, fun ho' => by cases ho'⟩
      obtain ⟨d, h1, h2⟩ := hc j c hj
      rw [hat]
      exact ⟨d, h1, hv _ _ h2⟩
  · rw [hro i r hr] at ho; cases ho
/-- One more slot without a row. -/
theorem Ro.dead {M : Mem} {μ : Map} {w : World} (h : Ro M μ w) : Ro (M ++ [.dead]) μ w ∧ ∀ x y, VRel M μ x y → VRel (M ++ [.dead]) μ x y := by
  have hv : ∀ x y, VRel M μ x y → VRel (M ++ [.dead]) μ x y := fun x y hx => hx.same fun i s hs _ => by
    have hi := (List.getElem?_eq_some_iff.1 hs).1
    exact ⟨by rw [getElem?_snoc_lt hi]; exact hs, rfl, rfl⟩
  have hro : ∀ (i : Nat) r, (M ++ [Slot.dead])[i]? = some (.live r) → M[i]? = some (.live r) := fun i r hr => by
    rcases getElem?_snoc_inv hr with ⟨hi, hr⟩ | ⟨_, he⟩
    · exact hr
    · cases he
  refine ⟨⟨⟨fun id r hr => ?_, fun i j r s hr hs => h.sim.inj i j r s (hro i r hr) (hro j s hs), fun hon => ⟨(h.sim.glob hon).1, (h.sim.glob hon).2.1, fun i r hr ho => by rw [h.ro i r (hro i r hr)] at ho; cases ho⟩, h.sim.mapsKeep (fun _ _ _ => rfl) (fun id r es hr => by
    rcases getElem?_snoc_inv hr with ⟨_, h1⟩ | ⟨_, h1⟩
    · exact h1
    · cases h1)⟩, fun i r hr => h.ro i r (hro i r hr)⟩, hv⟩
  have hR := h.sim.row id r (hro id r hr)
  exact ⟨hR.lt, fun j c hj => (hR.cell j c hj).imp fun d hd => ⟨hd.1, hv _ _ hd.2⟩, fun ho => by rw [h.ro id r (hro id r hr)] at ho; cases ho⟩
/-- An argument that is a slice of plain cells. -/
theorem Arg.slice {α : Type} {k : Nat} {R : RecV α k} {w : World} {A : Option Addr} {n c : Nat} {l : List α} (h : Rd w k A n c (cellsL R l)) (hl : l.length = n) (hp : ∀ v ∈ cellsL R l, plainV v = true)
    (hnil : A = none → n = 0 ∧ c = 0) : Arg w (.slice A n c) fun M v => ∃ B, v = .slice B n c ∧ n ≤ maxLen ∧ Sl R M B n l := by
  intro M μ hr
  obtain ⟨_, h1, h2, h3⟩ := h
  cases A with
  | none =>
    obtain ⟨rfl, rfl⟩ := hnil rfl
    exact ⟨[], μ, .slice none 0 0, by simpa using hr, .plain rfl, ⟨none, rfl, by omega, hl, fun h => absurd h (by omega)⟩, fun x y h => by simpa using h⟩
  | some a =>
    by_cases hn : 0 < n
    · obtain ⟨_, e, hlt, hc⟩ := h3 hn
      injection e with e
      subst e
      obtain ⟨g1, g2⟩ := hr.row (a := a) (cells := cellsL R l) (e := 0) (k := k) hlt fun j u hj => ⟨u, hc j u hj, .plain (hp u (List.mem_of_getElem? hj))⟩
      refine ⟨_, _, .slice (some ⟨M.length, 0, none⟩) n c, g1, .sl getElem?_snoc_eq rfl h1 h2 (fun r hr => ?_), ⟨_, rfl, by omega, hl, fun _ => ⟨M.length, 0, rfl, ?_, fun j x hx => ?_⟩⟩, g2⟩
      · injection hr with hr
        subst hr
        exact ⟨Or.inr (by simp [Map.set, Addr.add]), fun h => by cases h⟩
      · simp [rowEsz]
      · simp [cellAt, hx]
    · obtain ⟨g1, g2⟩ := hr.dead
      refine ⟨_, _, .slice (some ⟨M.length, 0, none⟩) n c, g1, .sl getElem?_snoc_eq rfl h1 h2 (fun r hr => by cases hr), ⟨_, rfl, by omega, hl, fun h => absurd h hn⟩, g2⟩
/-- The law's end. -/
theorem law_end {f : FuncId} {w : World} {M : Mem} {μ : Map} {vs cs : List Value} (h : AR w M μ vs cs) (hd : Det Try.prog M.length f vs M (.bool true) M) :
    Calls Try.prog f cs.toArray w fun e w' => e = .returned (.bool true) ∧ Below w.heap.size w w' := by
  refine (hd.run μ w cs h.rel h.ro.sim).mono ?_
  rintro e w' ⟨c, μ', rfl, hv, _, hs⟩
  rw [hv.bool]
  refine ⟨rfl, hs.os, hs.tape, hs.output, hs.size, fun k hk => hs.block k hk (fun i r hi hr _ => ?_) (fun i r es hi hr => absurd (List.getElem?_eq_some_iff.1 hr).1 (by omega))⟩
  have := (List.getElem?_eq_some_iff.1 hr).1
  omega
/-- Records of numbers. -/
structure Ints {α : Type} {k : Nat} (R : RecV α k) where
  of : List Int → α
  row : ∀ zs, zs.length = k → R.row (of zs) = ints zs
theorem Ints.chunk {α : Type} {k : Nat} {R : RecV α k} (I : Ints R) : ∀ (n : Nat) (zs : List Int), zs.length = n * k → (∀ z ∈ zs, (Lit.int .i64 z).wf = true) →
    ∃ l : List α, l.length = n ∧ cellsL R l = ints zs ∧ ∀ a ∈ l, ∃ ys : List Int, a = I.of ys ∧ ys.length = k ∧ ∀ z ∈ ys, (Lit.int .i64 z).wf = true
  | 0, zs, h, _ => ⟨[], rfl, by obtain rfl := List.eq_nil_of_length_eq_zero (by omega : zs.length = 0); rfl, by simp⟩
  | n + 1, zs, h, hw => by
    rw [Nat.add_mul, Nat.one_mul] at h
    obtain ⟨l, h1, h2, h3⟩ := I.chunk n (zs.drop k) (by rw [List.length_drop]; omega) fun z hz => hw z (List.mem_of_mem_drop hz)
    refine ⟨I.of (zs.take k) :: l, by simp [h1], ?_, fun a ha => ?_⟩
    · rw [cellsL_cons, I.row _ (by rw [List.length_take]; omega), h2]
      unfold ints
      rw [← List.map_append, List.take_append_drop]
    · rcases List.mem_cons.1 ha with rfl | ha
      · exact ⟨_, rfl, by rw [List.length_take]; omega, fun z hz => hw z (List.mem_of_mem_take hz)⟩
      · exact h3 a ha
theorem plain_ints {zs : List Int} : ∀ v ∈ ints zs, plainV v = true := fun v hv => by
  obtain ⟨z, -, rfl⟩ := List.mem_map.1 hv
  rfl
/-- An argument that is a slice of structs of int64 alone. -/
theorem Arg.flats {H : Type} {enc : TypeId × Value → H} {α : Type} {k : Nat} {R : RecV α k} (I : Ints R) {W : World} {base : Nat} {t e : TypeId} {v : Value} {d : DataW H} {p q : List MemPlace} (ht : Try.prog.underlying t = some (.slice e)) (hB : flatB 5 e = true) (hk : Try.prog.cellsOf e = k) (hk0 : 0 < k)
    (hlt : ∀ x ∈ q, x.block < W.heap.size) (hv : Value.okWide Try.prog W .any base t v)
    (h : DataW.Trod enc Try.prog W 0 (fun _ => true) true t v d p) (hp : ∀ x ∈ p, x ∈ q) :
    Arg W v fun M v' => ∃ B n c l, v' = .slice B n c ∧ n ≤ maxLen ∧ Sl R M B n l ∧ ∀ a ∈ l, ∃ ys : List Int, a = I.of ys ∧ ys.length = k ∧ ∀ z ∈ ys, (Lit.int .i64 z).wf = true := by
  obtain ⟨A, n, c, zs, rfl, h1, h2, h3⟩ := open_flats ht hB hk hk0 hlt hv h hp
  have hz := h1.1
  rw [ints_len] at hz
  obtain ⟨l, g1, g2, g3⟩ := I.chunk n zs hz h3
  rw [← g2] at h1
  intro M μ hr
  obtain ⟨L, μ', v, a1, a2, ⟨B, a3, a4, a5⟩, a6⟩ := Arg.slice h1 g1 (by rw [g2]; exact plain_ints) h2 M μ hr
  exact ⟨L, μ', v, a1, a2, ⟨B, n, c, l, a3, a4, a5, g3⟩, a6⟩
theorem Arg.agg1 {w : World} {c : Value} {K : Mem → Value → Prop} (h : Arg w c K) : Arg w (.agg #[c]) fun M v => ∃ x, v = .agg #[x] ∧ K M x := fun M μ hr => by
  obtain ⟨L, μ', v, h1, h2, h3, h4⟩ := h M μ hr
  exact ⟨L, μ', .agg #[v], h1, VRel.mk_agg (.cons h2 .nil), ⟨v, rfl, h3⟩, h4⟩
/-- An argument that is a struct with one field, a slice of structs of int64 alone. -/
theorem Arg.wrap {H : Type} {enc : TypeId × Value → H} {α : Type} {k : Nat} {R : RecV α k} (I : Ints R) {W : World} {base : Nat} {t s e : TypeId} {f0 : Field} {v : Value} {d : DataW H} {p q : List MemPlace} (hst : Try.prog.underlying t = some (.struct #[f0])) (hf0 : f0.type = s ∧ f0.offset = 0) (hc1 : Try.prog.cellsOf t = 1) (hc2 : Try.prog.cellsOf s = 1)
    (ht : Try.prog.underlying s = some (.slice e)) (hB : flatB 5 e = true) (hk : Try.prog.cellsOf e = k) (hk0 : 0 < k)
    (hlt : ∀ x ∈ q, x.block < W.heap.size) (hv : Value.okWide Try.prog W .any base t v)
    (h : DataW.Trod enc Try.prog W 0 (fun _ => true) true t v d p) (hp : ∀ x ∈ p, x ∈ q) :
    Arg W v fun M v' => ∃ u, v' = .agg #[u] ∧ ∃ B n c l, u = .slice B n c ∧ n ≤ maxLen ∧ Sl R M B n l ∧ ∀ a ∈ l, ∃ ys : List Int, a = I.of ys ∧ ys.length = k ∧ ∀ z ∈ ys, (Lit.int .i64 z).wf = true := by
  obtain ⟨cs, rfl, hsz⟩ := okWide_struct hst hv
  obtain ⟨fuel, hf⟩ := h
  obtain ⟨xs, m, -, hx, hlen, hxl, hi⟩ := DataW.trod_struct hst hf
  rw [hc1] at hsz
  obtain ⟨l0, rfl⟩ : ∃ u, cs = #[u] := by
    obtain ⟨l⟩ := cs
    match l, hsz with
    | [u], _ => exact ⟨u, rfl⟩
  have h0 := hi 0 f0 rfl
  obtain ⟨hf1, hf2⟩ := hf0
  rw [hf1, hf2, hc2] at h0
  obtain ⟨⟨d0, p0⟩, rfl⟩ : ∃ x, xs = [x] := by
    match xs, hxl with
    | [x], _ => exact ⟨x, rfl⟩
  have h0' : DataW.trod enc Try.prog W 0 (fun _ => true) true m s [l0] = some (d0, p0) := h0
  have hpp : ∀ x ∈ p0, x ∈ q := fun x hx' => hp x (by injection hx with _ hx; rw [hx]; simpa using hx')
  obtain ⟨A, n, c, zs, rfl, h1, h2, h3⟩ := open_flats_t ht hB hk hk0 hlt h0' hpp
  have hz := h1.1
  rw [ints_len] at hz
  obtain ⟨l, g1, g2, g3⟩ := I.chunk n zs hz h3
  rw [← g2] at h1
  refine Arg.agg1 (fun M μ hr => ?_)
  obtain ⟨L, μ', v, a1, a2, ⟨B, a3, a4, a5⟩, a6⟩ := Arg.slice h1 g1 (by rw [g2]; exact plain_ints) h2 M μ hr
  exact ⟨L, μ', v, a1, a2, ⟨B, n, c, l, a3, a4, a5, g3⟩, a6⟩
end Go.Proofs.Ytbpaeonfebmomaa

namespace Go.Proofs.Ytbpaeonfebmomaa
open Go.RowKit
set_option linter.unusedVariables false
set_option linter.unusedSimpArgs false
set_option maxRecDepth 100000
attribute [local simp] List.getElem?_cons_zero
attribute [local irreducible] awCond awCall awLoop awDraw ow retQ retC resQ Keeps
structure Frac where
  (n d : Int)
deriving Inhabited, DecidableEq
def Frac.row (c : Frac) : List Value := [iv c.n, iv c.d]
def fracR : RecV Frac 2 := ⟨Frac.row, fun _ => rfl⟩
abbrev Frac.v (c : Frac) : Value := .agg #[iv c.n, iv c.d]
theorem frac_cells {M : Mem} {id off : Nat} {g : Frac} (h : Cl M id off g.row) : cellAt M id off = some (iv g.n) ∧ cellAt M id (off + 1) = some (iv g.d) :=
  ⟨h 0 _ rfl, h 1 _ rfl⟩
theorem frac_load {M : Mem} {id off : Nat} {g : Frac} (h : Cl M id off g.row) : cellsAt M id off 2 = some [iv g.n, iv g.d] := cellsAt_of h rfl (by omega)
theorem frac_eq {a b : Frac} : a = b ↔ a.n = b.n ∧ a.d = b.d := by
  cases a; cases b; simp
def fracI : Ints fracR := ⟨fun zs => ⟨gi zs 0, gi zs 1⟩, fun zs h => by
  obtain ⟨x0, x1, rfl⟩ : ∃ x0 x1, zs = [x0, x1] := by
    match zs, h with
    | [x0, x1], _ => exact ⟨x0, x1, rfl⟩
  rfl⟩

/-- Equality of records, as the language has it. -/
theorem frac_same (a b : Frac) : aggEq Try.prog 51 #[iv a.n, iv a.d] #[iv b.n, iv b.d] = some (decide (a = b)) := by
  refine aggEq_of (by kernel_rfl) rfl rfl fun w => ?_
  unfold Op.equal
  rw [show Op.maxDepth = 9999 + 1 from rfl]
  rw [run_equalIn_agg _ _ _ _ _ Try.underlying51 (by kernel_rfl)]
  simp [go_sem]
  repeat' split
  all_goals simp_all [frac_eq]
theorem frac_eql (a b : Frac) : binV Try.prog .eql 51 (.agg #[iv a.n, iv a.d]) (.agg #[iv b.n, iv b.d]) = some (.bool (decide (a = b))) := by
  simp only [binV, eqV, Try.underlying51, frac_same, Option.map_some]
theorem frac_neq (a b : Frac) : binV Try.prog .neq 51 (.agg #[iv a.n, iv a.d]) (.agg #[iv b.n, iv b.d]) = some (.bool (!decide (a = b))) := by
  simp only [binV, eqV, Try.underlying51, frac_same, Option.map_some]
@[simp] theorem frac_fill (x0 x1 : Int) : Instr.fill (fun i => some (i * 2, 2)) (zrow [iv 0, iv 0] 1).toArray [(0, .agg #[iv x0, iv x1])] = some #[iv x0, iv x1] := fill_agg (by omega) rfl rfl
theorem eqFrac_a {M : Mem} (a b : Frac) : Det Try.prog M.length 96 [a.v, b.v] M (.bool (decide (a = b))) M := by
  first | (refine det_fn Try.func96 rfl Try.ntmps96 Try.results96 rfl rfl rfl (by simp) ?_) | (refine det_fnC Try.func96 rfl Try.ntmps96 Try.results96 rfl rfl (by simp) ?_)
  simp
  repeat' (first | (refine awCond_split ?_ ?_ <;> intro _) | (simp [keeps_app]))
  all_goals (simp_all [frac_eq])
def markFrac (z : Int) (i : Nat) : Frac := ⟨z + i * 2, z + i * 2 + 1⟩
def markFracL (z : Int) (n : Nat) : List Frac := (List.range n).map (markFrac z)
theorem markFracL_succ (z : Int) (n : Nat) : markFracL z (n + 1) = markFracL z n ++ [markFrac z n] := by simp [markFracL, List.range_succ]
/-! The same, as the laws use them. -/
end Go.Proofs.Ytbpaeonfebmomaa

namespace Go.Proofs.Ytbpaeonfebmomaa
open Go.RowKit
set_option linter.unusedVariables false
set_option linter.unusedSimpArgs false
set_option maxRecDepth 100000
attribute [local simp] List.getElem?_cons_zero
attribute [local irreducible] awCond awCall awLoop awDraw ow retQ retC resQ Keeps
abbrev uv (n : Int) : Value := .int .u64 n
theorem u64_in {x : Int} (h1 : 0 ≤ x) (h2 : x < 18446744073709551616) : IntKind.u64.wrap x = x := by
  have e : (2 : Int) ^ IntKind.u64.bits = 18446744073709551616 := by decide
  have e2 : IntKind.u64.signed = false := rfl
  simp only [IntKind.wrap, e, e2]
  simp
  omega
theorem u64_neg {x : Int} (h1 : -9223372036854775808 ≤ x) (h2 : x < 0) : IntKind.u64.wrap x = x + 18446744073709551616 := by
  have e : (2 : Int) ^ IntKind.u64.bits = 18446744073709551616 := by decide
  have e2 : IntKind.u64.signed = false := rfl
  simp only [IntKind.wrap, e, e2]
  simp
  omega
theorem u64_mag {x : Int} (h1 : -9223372036854775808 ≤ x) (h2 : x < 0) : IntKind.u64.wrap (0 - IntKind.u64.wrap x) = -x := by
  have e : (2 : Int) ^ IntKind.u64.bits = 18446744073709551616 := by decide
  have e2 : IntKind.u64.signed = false := rfl
  rw [u64_neg h1 h2]
  simp only [IntKind.wrap, e, e2]
  simp
  omega
/-- The greatest common divisor, as a number of 64 bits. -/
theorem tmod_nat (x y : Nat) : ((x : Int)).tmod y = ((x % y : Nat) : Int) := by
  rw [Int.tmod_eq_emod_of_nonneg (by omega)]
  rfl
theorem tdiv_nat (x y : Nat) : ((x : Int)).tdiv y = ((x / y : Nat) : Int) := by
  rw [Int.tdiv_eq_ediv_of_nonneg (by omega)]
  rfl
def fracB (f : Frac) : Bool := inB f.d 1 1000000 && inB f.n (-1000000000) 1000000000 && decide (f.n.natAbs.gcd f.d.natAbs = 1)
theorem fracB_iff {f : Frac} : fracB f = true ↔ (1 ≤ f.d ∧ f.d ≤ 1000000) ∧ (-1000000000 ≤ f.n ∧ f.n ≤ 1000000000) ∧ f.n.natAbs.gcd f.d.natAbs = 1 := by
  simp only [fracB, Bool.and_eq_true, decide_eq_true_eq, inB_iff, and_assoc]
def mkF (n d : Int) : Frac × Int :=
  if d = 0 then (⟨0, 0⟩, 1) else
  if 1000000000 < n.natAbs / n.natAbs.gcd d.natAbs ∨ 1000000 < d.natAbs / n.natAbs.gcd d.natAbs then (⟨0, 0⟩, 2) else
  (⟨if (decide (n < 0) != decide (d < 0)) = true then -((n.natAbs / n.natAbs.gcd d.natAbs : Nat) : Int) else ((n.natAbs / n.natAbs.gcd d.natAbs : Nat) : Int), ((d.natAbs / n.natAbs.gcd d.natAbs : Nat) : Int)⟩, 0)
def cmpF (a b : Frac) : Int := if a.n * b.d - b.n * a.d < 0 then -1 else if a.n * b.d - b.n * a.d > 0 then 1 else 0
def addF (a b : Frac) : Frac × Int := if fracB a = true ∧ fracB b = true then mkF (a.n * b.d + b.n * a.d) (a.d * b.d) else (⟨0, 0⟩, 1)
def subF (a b : Frac) : Frac × Int := if fracB a = true ∧ fracB b = true then mkF (a.n * b.d - b.n * a.d) (a.d * b.d) else (⟨0, 0⟩, 1)
def mulF (a b : Frac) : Frac × Int := if fracB a = true ∧ fracB b = true then mkF (a.n * b.n) (a.d * b.d) else (⟨0, 0⟩, 1)
theorem mul_bd2 {a b A B : Int} (h1 : -A ≤ a) (h2 : a ≤ A) (h3 : -B ≤ b) (h4 : b ≤ B) : -(A * B) ≤ a * b ∧ a * b ≤ A * B := by
  have h : (a * b).natAbs ≤ A.natAbs * B.natAbs := by
    rw [Int.natAbs_mul]
    exact Nat.mul_le_mul (by omega) (by omega)
  have e : ((A.natAbs * B.natAbs : Nat) : Int) = A * B := by
    rw [Int.natCast_mul, Int.natAbs_of_nonneg (by omega), Int.natAbs_of_nonneg (by omega)]
  omega
theorem frac_bd {a b : Frac} (ha : fracB a = true) (hb : fracB b = true) : (-1000000000000000 ≤ a.n * b.d ∧ a.n * b.d ≤ 1000000000000000) ∧ (-1000000000000000 ≤ b.n * a.d ∧ b.n * a.d ≤ 1000000000000000) ∧ (1 ≤ a.d * b.d ∧ a.d * b.d ≤ 1000000000000) ∧ (-1000000000000000000 ≤ a.n * b.n ∧ a.n * b.n ≤ 1000000000000000000) := by
  obtain ⟨a1, a2, -⟩ := fracB_iff.1 ha
  obtain ⟨b1, b2, -⟩ := fracB_iff.1 hb
  have h1 := mul_bd2 (a := a.n) (b := b.d) (A := 1000000000) (B := 1000000) (by omega) (by omega) (by omega) (by omega)
  have h2 := mul_bd2 (a := b.n) (b := a.d) (A := 1000000000) (B := 1000000) (by omega) (by omega) (by omega) (by omega)
  have h3 := mul_bd2 (a := a.d) (b := b.d) (A := 1000000) (B := 1000000) (by omega) (by omega) (by omega) (by omega)
  have h4 := mul_bd2 (a := a.n) (b := b.n) (A := 1000000000) (B := 1000000000) (by omega) (by omega) (by omega) (by omega)
  have h5 : 0 < a.d * b.d := Int.mul_pos (by omega) (by omega)
  omega
/-- What is made is a fraction. -/
theorem mkF_ok {n d : Int} (h : (mkF n d).2 = 0) : fracB (mkF n d).1 = true := by
  unfold mkF at h ⊢
  split at h
  · cases h
  · rename_i hd
    rw [if_neg hd]
    split at h
    · cases h
    · rename_i hr
      rw [if_neg hr]
      have hg : 0 < n.natAbs.gcd d.natAbs := Nat.gcd_pos_of_pos_right _ (by omega)
      have hq : 0 < d.natAbs / n.natAbs.gcd d.natAbs := Nat.div_pos (Nat.le_of_dvd (by omega) (Nat.gcd_dvd_right _ _)) hg
      have hc := Nat.gcd_div_gcd_div_gcd_of_pos_right (n := n.natAbs) (m := d.natAbs) (by omega)
      generalize n.natAbs / n.natAbs.gcd d.natAbs = a at *
      generalize d.natAbs / n.natAbs.gcd d.natAbs = b at *
      refine fracB_iff.2 ⟨by simp only; omega, ?_, ?_⟩
      · simp only
        split <;> omega
      · simp only
        split
        · rw [Int.natAbs_neg, Int.natAbs_natCast, Int.natAbs_natCast]; exact hc
        · rw [Int.natAbs_natCast, Int.natAbs_natCast]; exact hc
theorem mkF_self {f : Frac} (h : fracB f = true) : mkF f.n f.d = (f, 0) := by
  obtain ⟨h1, h2, h3⟩ := fracB_iff.1 h
  unfold mkF
  rw [if_neg (by omega), h3, Nat.div_one, Nat.div_one, if_neg (by omega)]
  obtain ⟨n, d⟩ := f
  simp only at *
  have hd : ¬ d < 0 := by omega
  by_cases hn : n < 0
  · simp [hn, hd]
    omega
  · simp [hn, hd]
    omega
end Go.Proofs.Ytbpaeonfebmomaa

namespace Go.Proofs.Ytbpaeonfebmomaa
open Go.RowKit
set_option linter.unusedVariables false
set_option linter.unusedSimpArgs false
set_option maxRecDepth 100000
attribute [local simp] List.getElem?_cons_zero
attribute [local irreducible] awCond awCall awLoop awDraw ow retQ retC resQ Keeps
structure RG (M : Mem) (a c : Nat) (X : Nat → Bool) (S : St) : Prop where
  n : S.n = 12
  M : S.M = M
  t0 : look S.T 0 = some (uv (if X 4 = true then c else a : Nat))
  t1 : look S.T 1 = some (uv (if X 5 = true then a % c else c : Nat))
  c0 : X 0 = true → look S.T 7 = some (uv c)
  c1 : X 1 = true → look S.T 8 = some (uv a)
  c2 : X 2 = true → look S.T 9 = some (uv c)
  c3 : X 3 = true → look S.T 10 = some (uv (a % c : Nat))
  d4 : X 4 = true → X 1 = true
  d5 : X 5 = true → X 0 = true ∧ X 2 = true
theorem gcd_i {M : Mem} (x y : Nat) (hx : x < 18446744073709551616) (hy : y < 18446744073709551616) : Det Try.prog M.length 27 [uv x, uv y] M (uv (x.gcd y : Nat)) M := by
  first | (refine det_fn Try.func27 rfl Try.ntmps27 Try.results27 rfl rfl rfl (by simp) ?_) | (refine det_fnC Try.func27 rfl Try.ntmps27 Try.results27 rfl rfl (by simp) ?_)
  simp
  refine awLoop_T (fun m T M' => ∃ a c : Nat, c = m ∧ a < 18446744073709551616 ∧ c < 18446744073709551616 ∧ a.gcd c = x.gcd y ∧ M' = M ∧ look T 0 = some (uv a) ∧ look T 1 = some (uv c)) y ⟨x, y, rfl, hx, hy, rfl, rfl, by simp, by simp⟩ ?_
  rintro m T M' ⟨a, c, rfl, ha, hc, hg, rfl, h0, h1⟩
  by_cases hc0 : c = 0
  · subst hc0
    rw [Nat.gcd_zero_right] at hg
    simp [h0, h1, hg, Keeps.refl]
  · have hc1 : ¬ (c : Int) = 0 := by omega
    simp [h0, h1, hc0, hc1]
    have hbd : ∀ n : Nat, Region.binds Region.Mode.any ⟨n, Ground.data⟩ = true := fun _ => by rfl
    refine awDraw_I (RG M' a c) (by kernel_rfl) (by kernel_rfl) ⟨rfl, rfl, by simp [h0], by simp [h1], fun h => by simp at h, fun h => by simp at h, fun h => by simp at h, fun h => by simp at h, fun h => by simp at h, fun h => by simp at h⟩ ?_ ?_
    · rintro X ⟨n', T, M⟩ k o ⟨en, eM, t0, t1, c0, c1, c2, c3, d4, d5⟩ ho hX hd
      have hk : k < 6 := by have := (List.getElem?_eq_some_iff.1 ho).1; simpa using this
      simp only at en eM t0 t1 c0 c1 c2 c3
      subst en
      rcases k with _ | _ | _ | _ | _ | _ | k
      all_goals first | omega | (simp at ho; subst ho; simp [hbd] at hd; try simp at hX)
      · have x5 : X 5 = false := by
          cases h5 : X 5 with
          | false => rfl
          | true => rw [(d5 h5).1] at hX; cases hX
        rw [x5] at t1
        simp at t1
        simp [t1]
        refine ⟨rfl, eM, by simpa [upX] using t0, by simp [t1, x5, upX], fun _ => by simp, fun h => by simpa using c1 (by simpa [upX] using h), fun h => by simpa using c2 (by simpa [upX] using h), fun h => by simpa using c3 (by simpa [upX] using h), fun h => by simpa [upX] using d4 (by simpa [upX] using h), fun h => by simp [upX] at h; simp [upX, (d5 h).2]⟩
      · have x4 : X 4 = false := by
          cases h4 : X 4 with
          | false => rfl
          | true => rw [d4 h4] at hX; cases hX
        rw [x4] at t0
        simp at t0
        simp [t0]
        refine ⟨rfl, eM, by simp [t0, x4, upX], by simpa [upX] using t1, fun h => by simpa using c0 (by simpa [upX] using h), fun _ => by simp, fun h => by simpa using c2 (by simpa [upX] using h), fun h => by simpa using c3 (by simpa [upX] using h), fun h => by simp [upX], fun h => by simpa [upX] using d5 (by simpa [upX] using h)⟩
      · have x5 : X 5 = false := by
          cases h5 : X 5 with
          | false => rfl
          | true => rw [(d5 h5).2] at hX; cases hX
        rw [x5] at t1
        simp at t1
        simp [t1]
        refine ⟨rfl, eM, by simpa [upX] using t0, by simp [t1, x5, upX], fun h => by simpa using c0 (by simpa [upX] using h), fun h => by simpa using c1 (by simpa [upX] using h), fun _ => by simp, fun h => by simpa using c3 (by simpa [upX] using h), fun h => by simpa [upX] using d4 (by simpa [upX] using h), fun h => by simp [upX] at h; simp [upX, (d5 h).1]⟩
      · have e1 := c1 hd.1
        have e2 := c2 hd.2
        simp [e1, e2, hc0, hc1, tmod_nat]
        refine ⟨rfl, eM, by simpa [upX] using t0, by simpa [upX] using t1, fun h => by simpa using c0 (by simpa [upX] using h), fun h => by simpa using c1 (by simpa [upX] using h), fun h => by simpa using c2 (by simpa [upX] using h), fun _ => by simp, fun h => by simpa [upX] using d4 (by simpa [upX] using h), fun h => by simpa [upX] using d5 (by simpa [upX] using h)⟩
      · have e0 := c0 hd.1
        have x1 : X 1 = true := hd.2.2.1 (by rfl)
        simp [e0]
        refine ⟨rfl, eM, by simp, by simpa [upX] using t1, fun h => by simpa using c0 (by simpa [upX] using h), fun h => by simpa using c1 (by simpa [upX] using h), fun h => by simpa using c2 (by simpa [upX] using h), fun h => by simpa using c3 (by simpa [upX] using h), fun _ => by simpa [upX] using x1, fun h => by simpa [upX] using d5 (by simpa [upX] using h)⟩
      · have e3 := c3 hd.1
        have x0 : X 0 = true := hd.2.2.1 (by rfl)
        have x2 : X 2 = true := hd.2.2.2.2.1 (by rfl)
        simp [e3]
        refine ⟨rfl, eM, by simpa [upX] using t0, by simp, fun h => by simpa using c0 (by simpa [upX] using h), fun h => by simpa using c1 (by simpa [upX] using h), fun h => by simpa using c2 (by simpa [upX] using h), fun h => by simpa using c3 (by simpa [upX] using h), fun h => by simpa [upX] using d4 (by simpa [upX] using h), fun _ => by simp [upX, x0, x2]⟩
    · rintro X ⟨n', T, M⟩ hX ⟨en, eM, t0, t1, c0, c1, c2, c3, d4, d5⟩
      have x4 := hX 4 (by simp)
      have x5 := hX 5 (by simp)
      simp only [x4, x5, if_true] at t0 t1 en eM
      subst en
      subst eM
      simp
      have hlt := Nat.mod_lt a (show 0 < c by omega)
      exact lpI (a % c) hlt ⟨c, a % c, rfl, hc, by omega, by rw [Nat.gcd_comm c, ← Nat.gcd_rec, Nat.gcd_comm, hg], rfl, t0, t1⟩
theorem gcd_s {M : Mem} (x y : Nat) (hx : x < 18446744073709551616) (hy : y < 18446744073709551616) : Det Try.prog M.length 71 [uv x, uv y] M (uv (x.gcd y : Nat)) M := by
  first | (refine det_fn Try.func71 rfl Try.ntmps71 Try.results71 rfl rfl rfl (by simp) ?_) | (refine det_fnC Try.func71 rfl Try.ntmps71 Try.results71 rfl rfl (by simp) ?_)
  simp
  refine awLoop_T (fun m T M' => ∃ a c : Nat, c = m ∧ a < 18446744073709551616 ∧ c < 18446744073709551616 ∧ a.gcd c = x.gcd y ∧ M' = M ∧ look T 0 = some (uv a) ∧ look T 1 = some (uv c)) y ⟨x, y, rfl, hx, hy, rfl, rfl, by simp, by simp⟩ ?_
  rintro m T M' ⟨a, c, rfl, ha, hc, hg, rfl, h0, h1⟩
  by_cases hc0 : c = 0
  · subst hc0
    rw [Nat.gcd_zero_right] at hg
    simp [h0, h1, hg, Keeps.refl]
  · have hc1 : ¬ (c : Int) = 0 := by omega
    have hc2 : 0 < c := by omega
    simp [h0, h1, hc0, hc1, hc2, tmod_nat]
    have hlt := Nat.mod_lt a (show 0 < c by omega)
    refine lpI (a % c) hlt ⟨c, a % c, rfl, hc, by omega, by rw [Nat.gcd_comm c, ← Nat.gcd_rec, Nat.gcd_comm, hg], rfl, by simp, by simp⟩
theorem mag_i {M : Mem} (n : Int) (h1 : -9223372036854775808 ≤ n) (h2 : n ≤ 9223372036854775807) : Det Try.prog M.length 93 [iv n] M (uv n.natAbs) M := by
  first | (refine det_fn Try.func93 rfl Try.ntmps93 Try.results93 rfl rfl rfl (by simp) ?_) | (refine det_fnC Try.func93 rfl Try.ntmps93 Try.results93 rfl rfl (by simp) ?_)
  simp
  by_cases h : n < 0
  · have e : IntKind.u64.wrap (-IntKind.u64.wrap n) = ((n.natAbs : Nat) : Int) := by rw [← Int.zero_sub, u64_mag h1 h]; omega
    simp [h, e, Keeps.refl]
  · have e : IntKind.u64.wrap n = ((n.natAbs : Nat) : Int) := by rw [u64_in (by omega) (by omega)]; omega
    simp [h, e, Keeps.refl]
theorem mag_s {M : Mem} (n : Int) (h1 : -9223372036854775808 ≤ n) (h2 : n ≤ 9223372036854775807) : Det Try.prog M.length 70 [iv n] M (uv n.natAbs) M := by
  first | (refine det_fn Try.func70 rfl Try.ntmps70 Try.results70 rfl rfl rfl (by simp) ?_) | (refine det_fnC Try.func70 rfl Try.ntmps70 Try.results70 rfl rfl (by simp) ?_)
  simp
  by_cases h : n < 0
  · have e : IntKind.u64.wrap (IntKind.u64.wrap (-(n + 1)) + 1) = ((n.natAbs : Nat) : Int) := by rw [u64_in (x := -(n + 1)) (by omega) (by omega), u64_in (by omega) (by omega)]; omega
    simp (disch := omega) [h, e, wrap_in, Keeps.refl]
  · have e : IntKind.u64.wrap n = ((n.natAbs : Nat) : Int) := by rw [u64_in (by omega) (by omega)]; omega
    simp [h, e, Keeps.refl]
end Go.Proofs.Ytbpaeonfebmomaa
