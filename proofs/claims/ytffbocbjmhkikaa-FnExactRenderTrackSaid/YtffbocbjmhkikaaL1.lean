/- Lists that grow by append. No conditions. -/
import Derived.Test.YtffbocbjmhkikaaL0
namespace Go.Proofs.Ytffbocbjmhkikaa
open Go.RowKit
set_option linter.unusedVariables false
set_option linter.unusedSimpArgs false
set_option maxRecDepth 100000
attribute [local simp] List.getElem?_cons_zero
attribute [local irreducible] awCond awCall awLoop awDraw ow retQ retC resQ Keeps
section
variable {α : Type} {k : Nat}
/-- The value v is a list in a row of one's own, from id B on, that append can grow. -/
def Acc (R : RecV α k) (e : TypeId) (B : Nat) (M : Mem) (v : Value) (l : List α) : Prop :=
  ∃ A n c, v = .slice A n c ∧ l.length = n ∧ ((A = none ∧ n = 0 ∧ c = 0) ∨ ∃ id t, A = some ⟨id, 0, none⟩ ∧ B ≤ id ∧ M[id]? = some (.live ⟨cellsL R l, true, t, e, k⟩))
/-- Below B nothing has turned. -/
def Same (B : Nat) (M M' : Mem) : Prop := M.length ≤ M'.length ∧ ∀ (i : Nat) s, i < B → M[i]? = some s → M'[i]? = some s
theorem Same.keeps {B : Nat} {M0 M M' : Mem} (h : Same B M M') (hk : Keeps M0 M) (hb : M0.length ≤ B) : Keeps M0 M' := by
  unfold Keeps
  exact fun i s hs => h.2 i s (by have := (List.getElem?_eq_some_iff.1 hs).1; omega) (hk.get hs)
theorem Acc.keeps {R : RecV α k} {e : TypeId} {B : Nat} {M M' : Mem} {v : Value} {l : List α} (h : Acc R e B M v l) (hk : Keeps M M') : Acc R e B M' v l := by
  obtain ⟨A, n, c, h1, h2, h3⟩ := h
  refine ⟨A, n, c, h1, h2, ?_⟩
  rcases h3 with h3 | ⟨id, t, h4, h5, h6⟩
  · exact .inl h3
  · exact .inr ⟨id, t, h4, h5, hk.get h6⟩
theorem Acc.src {P : Program} {R : RecV α k} {e tx : TypeId} {B : Nat} {M : Mem} {v : Value} {l : List α} (h : Acc R e B M v l) (ht : ∃ e', P.underlying tx = some (.slice e')) : srcOf P M k tx v = some (l.length, cellsL R l) := by
  obtain ⟨e', ht⟩ := ht
  obtain ⟨A, n, c, rfl, hl, hA⟩ := h
  subst hl
  rcases hA with ⟨rfl, h0, rfl⟩ | ⟨id, t, rfl, hid, hr⟩
  · obtain rfl := List.eq_nil_of_length_eq_zero h0
    simp [srcOf, ht, cellsL]
  · have e : cellsAt M id 0 (l.length * k) = some (cellsL R l) := by
      unfold cellsAt
      rw [hr]
      simp only
      rw [if_pos (by rw [cellsL_len]; omega), List.drop_zero, List.take_of_length_le (by rw [cellsL_len]; omega)]
    rcases l with _ | ⟨x, l⟩
    · simp [srcOf, ht, cellsL]
    · simp at e
      simp [srcOf, ht, e]
theorem Sl.src {P : Program} {R : RecV α k} {tx : TypeId} {M : Mem} {ad : Addr} {n c : Nat} {l : List α} (h : Sl R M (some ad) n l) (hk : 0 < k) (ht : ∃ e', P.underlying tx = some (.slice e')) : srcOf P M k tx (.slice (some ad) n c) = some (l.length, cellsL R l) := by
  obtain ⟨e', ht⟩ := ht
  have hl := h.1
  by_cases h0 : n = 0
  · subst h0
    obtain rfl := List.eq_nil_of_length_eq_zero hl
    simp [srcOf, ht, cellsL]
  · obtain ⟨id, off, e, he, hc⟩ := h.2 (by omega)
    injection e with e
    subst e
    have e := cellsAt_of hc (by rw [cellsL_len, hl]) (Nat.mul_pos (by omega) hk)
    simp [srcOf, ht, e, h0, hl]
theorem nil_eq {P : Program} {t e : TypeId} {q : Option Addr} {n c : Nat} (h : P.underlying t = some (.slice e)) : binV P .eql t (.slice q n c) (.slice none 0 0) = some (.bool q.isNone) := by
  cases q <;> simp [binV, eqV, h, slNil, eqNil]
theorem Acc.set_ne {R : RecV α k} {e : TypeId} {B : Nat} {M : Mem} {v : Value} {l : List α} {i : Nat} {s : Slot} (h : Acc R e B M v l) (hi : i < B) : Acc R e B (M.set i s) v l := by
  obtain ⟨A, n, c, h1, h2, h3⟩ := h
  refine ⟨A, n, c, h1, h2, ?_⟩
  rcases h3 with h3 | ⟨id, t, h4, h5, h6⟩
  · exact .inl h3
  · exact .inr ⟨id, t, h4, h5, by rw [List.getElem?_set_ne (by omega)]; exact h6⟩
theorem Acc.low {R : RecV α k} {e : TypeId} {B B' : Nat} {M : Mem} {v : Value} {l : List α} (h : Acc R e B M v l) (hb : B' ≤ B) : Acc R e B' M v l := by
  obtain ⟨A, n, c, h1, h2, h3⟩ := h
  refine ⟨A, n, c, h1, h2, ?_⟩
  rcases h3 with h3 | ⟨id, t, h4, h5, h6⟩
  · exact .inl h3
  · exact .inr ⟨id, t, h4, by omega, h6⟩
theorem Acc.sl {R : RecV α k} {e : TypeId} {B : Nat} {M : Mem} {v : Value} {l : List α} (h : Acc R e B M v l) : ∃ A n c, v = .slice A n c ∧ l.length = n ∧ Sl R M A n l ∧ oneV v = true := by
  obtain ⟨A, n, c, rfl, hl, hA⟩ := h
  refine ⟨A, n, c, rfl, hl, ?_, rfl⟩
  rcases hA with ⟨rfl, rfl, rfl⟩ | ⟨id, t, rfl, hid, hr⟩
  · exact ⟨hl, fun h => by omega⟩
  · exact ⟨hl, fun _ => ⟨id, 0, rfl, by simp [rowEsz, hr], fun j x hx => by simp [cellAt, hr, hx]⟩⟩
theorem Acc.nil {R : RecV α k} {e : TypeId} {B : Nat} {M : Mem} : Acc R e B M (.slice none 0 0) [] := ⟨none, 0, 0, rfl, rfl, .inl ⟨rfl, rfl, rfl⟩⟩
theorem Acc.append {P : Program} {R : RecV α k} {e t tx : TypeId} {B b by_ : Nat} {S : St} {v x : Value} {l : List α} {a : α} {K : Value → Mem → Prop} (h : Acc R e B S.M v l) (hb : b ≤ B) (hB : B ≤ S.M.length) (hk : 0 < k) (hq : qSlice P t = some (e, k, by_))
    (hz : (P.info? e).any (fun i => i.zero.any fun z => z.cells.size == k) = true) (hs : srcOf P S.M k tx x = some (1, R.row a)) (h1 : (R.row a).all (fun u => u.oneCell') = true) (hn : (l.length + 1) * by_ ≤ 140737488355328) (hm : l.length + 1 ≤ maxLen)
    (hK : ∀ v' M', Acc R e B M' v' (l ++ [a]) → Same B S.M M' → K v' M') : appendK P b S K t tx v x := by
  obtain ⟨A, n, c, rfl, hl, hA⟩ := h
  subst hl
  unfold appendK
  rw [hq]
  simp only [ow_some]
  rw [hs]
  simp only [ow_some]
  refine ⟨hz, h1, ?_⟩
  rcases hA with ⟨rfl, h0, rfl⟩ | ⟨id, tt, rfl, hid, hr⟩
  · obtain rfl := List.eq_nil_of_length_eq_zero h0
    refine ⟨⟨rfl, rfl⟩, by simpa using hn, by simpa using hm, fun h => by omega, fun _ => hK _ _ ⟨_, _, _, rfl, rfl, .inr ⟨S.M.length, false, rfl, hB, ?_⟩⟩ ⟨by simp, fun i s _ hs => ?_⟩⟩
    · rw [getElem?_snoc_eq]; simp [cellsL]
    · rw [List.getElem?_append_left (List.getElem?_eq_some_iff.1 hs).1]; exact hs
  · have hlt := (List.getElem?_eq_some_iff.1 hr).1
    simp only [hr]
    refine ⟨⟨trivial, by rw [cellsL_len], trivial, trivial⟩, hn, hm, fun h => by omega, fun _ => ?_⟩
    split
    · refine hK _ _ ⟨_, _, _, rfl, by simp, .inr ⟨S.M.length, false, rfl, hB, ?_⟩⟩ ⟨by simp, fun i s _ hs => ?_⟩
      · rw [getElem?_snoc_eq, cellsL_snoc]
      · rw [List.getElem?_append_left (List.getElem?_eq_some_iff.1 hs).1]; exact hs
    · refine ⟨by omega, hK _ _ ⟨_, _, _, rfl, by simp, .inr ⟨S.M.length, false, rfl, hB, ?_⟩⟩ ⟨by simp, fun i s hi hs => ?_⟩⟩
      · rw [List.getElem?_append_right (by simp), List.length_set, Nat.sub_self, cellsL_snoc]; rfl
      · rw [List.getElem?_append_left (by simpa using (List.getElem?_eq_some_iff.1 hs).1), List.getElem?_set_ne (by omega)]; exact hs
theorem Same.refl (B : Nat) (M : Mem) : Same B M M := ⟨Nat.le_refl _, fun _ _ _ h => h⟩
/-- The value does not lie in row i. -/
def Apart (v : Value) (i : Nat) : Prop := ∀ (A : Option Addr) (n c : Nat) (a : Addr), v = .slice A n c → A = some a → i ≠ a.block
theorem apart_new {M : Mem} {i : Nat} {s : Slot} {n c : Nat} (h : M[i]? = some s) : Apart (.slice (some ⟨M.length, 0, none⟩) n c) i := by
  intro A n' c' a e ea
  injection e with e1
  subst e1
  injection ea with ea
  subst ea
  have := (List.getElem?_eq_some_iff.1 h).1
  show i ≠ M.length
  omega
theorem Acc.apart {R : RecV α k} {e : TypeId} {B : Nat} {M : Mem} {v : Value} {l : List α} (h : Acc R e B M v l) {i : Nat} (hi : M.length ≤ i) : Apart v i := by
  obtain ⟨A, n, c, rfl, hl, hA⟩ := h
  intro A' n' c' a e ea
  injection e with e1
  subst e1
  rcases hA with ⟨rfl, _⟩ | ⟨id, t, rfl, hid, hr⟩
  · cases ea
  · injection ea with ea
    subst ea
    have := (List.getElem?_eq_some_iff.1 hr).1
    show i ≠ id
    omega
theorem Acc.extend2 {P : Program} {R : RecV α k} {e t tx : TypeId} {B b by_ : Nat} {S : St} {v x : Value} {l ls : List α} {K : Value → Mem → Prop} (h : Acc R e B S.M v l) (hb : b ≤ B) (hB : B ≤ S.M.length) (hq : qSlice P t = some (e, k, by_))
    (hz : (P.info? e).any (fun i => i.zero.any fun z => z.cells.size == k) = true) (hs : srcOf P S.M k tx x = some (ls.length, cellsL R ls)) (h1 : (cellsL R ls).all (fun u => u.oneCell') = true) (hn : (l.length + ls.length) * by_ ≤ 140737488355328) (hm : l.length + ls.length ≤ maxLen)
    (hK : ∀ v' M', Acc R e B M' v' (l ++ ls) → Same B S.M M' → (∀ (i : Nat) s, Apart v i → S.M[i]? = some s → M'[i]? = some s ∧ Apart v' i) → K v' M') : appendK P b S K t tx v x := by
  obtain ⟨A, n, c, rfl, hl, hA⟩ := h
  subst hl
  unfold appendK
  rw [hq]
  simp only [ow_some]
  rw [hs]
  simp only [ow_some]
  refine ⟨hz, h1, ?_⟩
  rcases hA with ⟨rfl, h0, rfl⟩ | ⟨id, tt, rfl, hid, hr⟩
  · obtain rfl := List.eq_nil_of_length_eq_zero h0
    refine ⟨⟨rfl, rfl⟩, by simpa using hn, by simpa using hm, fun h => ?_, fun _ => hK _ _ ⟨_, _, _, rfl, by simp, .inr ⟨S.M.length, false, rfl, hB, ?_⟩⟩ ⟨by simp, fun i s _ hs => ?_⟩ fun i s ha hs => ⟨?_, apart_new hs⟩⟩
    · obtain rfl := List.eq_nil_of_length_eq_zero h
      exact hK _ _ .nil (.refl _ _) fun i s ha hs => ⟨hs, ha⟩
    · rw [getElem?_snoc_eq]; simp
    · rw [List.getElem?_append_left (List.getElem?_eq_some_iff.1 hs).1]; exact hs
    · rw [List.getElem?_append_left (List.getElem?_eq_some_iff.1 hs).1]; exact hs
  · have hlt := (List.getElem?_eq_some_iff.1 hr).1
    simp only [hr]
    refine ⟨⟨trivial, by rw [cellsL_len], trivial, trivial⟩, hn, hm, fun h => ?_, fun _ => ?_⟩
    · obtain rfl := List.eq_nil_of_length_eq_zero h
      exact hK _ _ ⟨_, _, _, rfl, by simp, .inr ⟨id, tt, rfl, hid, by simpa using hr⟩⟩ (.refl _ _) fun i s ha hs => ⟨hs, ha⟩
    split
    · refine hK _ _ ⟨_, _, _, rfl, by simp, .inr ⟨S.M.length, false, rfl, hB, ?_⟩⟩ ⟨by simp, fun i s _ hs => ?_⟩ fun i s ha hs => ⟨?_, apart_new hs⟩
      · rw [getElem?_snoc_eq, cellsL_append]
      · rw [List.getElem?_append_left (List.getElem?_eq_some_iff.1 hs).1]; exact hs
      · rw [List.getElem?_append_left (List.getElem?_eq_some_iff.1 hs).1]; exact hs
    · refine ⟨by omega, hK _ _ ⟨_, _, _, rfl, by simp, .inr ⟨S.M.length, false, rfl, hB, ?_⟩⟩ ⟨by simp, fun i s hi hs => ?_⟩ fun i s ha hs => ⟨?_, apart_new hs⟩⟩
      · rw [List.getElem?_append_right (by simp), List.length_set, Nat.sub_self, cellsL_append]; rfl
      · rw [List.getElem?_append_left (by simpa using (List.getElem?_eq_some_iff.1 hs).1), List.getElem?_set_ne (by omega)]; exact hs
      · have := ha _ _ _ _ rfl rfl
        rw [List.getElem?_append_left (by simpa using (List.getElem?_eq_some_iff.1 hs).1), List.getElem?_set_ne (Ne.symm (by simpa using this))]; exact hs
theorem Acc.extend {P : Program} {R : RecV α k} {e t tx : TypeId} {B b by_ : Nat} {S : St} {v x : Value} {l ls : List α} {K : Value → Mem → Prop} (h : Acc R e B S.M v l) (hb : b ≤ B) (hB : B ≤ S.M.length) (hq : qSlice P t = some (e, k, by_))
    (hz : (P.info? e).any (fun i => i.zero.any fun z => z.cells.size == k) = true) (hs : srcOf P S.M k tx x = some (ls.length, cellsL R ls)) (h1 : (cellsL R ls).all (fun u => u.oneCell') = true) (hn : (l.length + ls.length) * by_ ≤ 140737488355328) (hm : l.length + ls.length ≤ maxLen)
    (hK : ∀ v' M', Acc R e B M' v' (l ++ ls) → Same B S.M M' → K v' M') : appendK P b S K t tx v x := h.extend2 hb hB hq hz hs h1 hn hm fun v' M' a b _ => hK v' M' a b
theorem Acc.append2 {P : Program} {R : RecV α k} {e t tx : TypeId} {B b by_ : Nat} {S : St} {v x : Value} {l : List α} {a : α} {K : Value → Mem → Prop} (h : Acc R e B S.M v l) (hb : b ≤ B) (hB : B ≤ S.M.length) (_hk : 0 < k) (hq : qSlice P t = some (e, k, by_))
    (hz : (P.info? e).any (fun i => i.zero.any fun z => z.cells.size == k) = true) (hs : srcOf P S.M k tx x = some (1, R.row a)) (h1 : (R.row a).all (fun u => u.oneCell') = true) (hn : (l.length + 1) * by_ ≤ 140737488355328) (hm : l.length + 1 ≤ maxLen)
    (hK : ∀ v' M', Acc R e B M' v' (l ++ [a]) → Same B S.M M' → (∀ (i : Nat) s, Apart v i → S.M[i]? = some s → M'[i]? = some s ∧ Apart v' i) → K v' M') : appendK P b S K t tx v x :=
  h.extend2 (ls := [a]) hb hB hq hz (by rw [hs]; simp [cellsL]) (by simpa [cellsL] using h1) (by simpa using hn) (by simpa using hm) hK
theorem cloneX {P : Program} {R : RecV α k} {e t : TypeId} {B b by_ : Nat} {S : St} {ad : Addr} {n c : Nat} {l : List α} {K : Value → Mem → Prop} (h : Sl R S.M (some ad) n l) (hk : 0 < k) (hA : Acc R e B S.M (.slice (some ⟨B, 0, none⟩) 0 0) []) (hb : b ≤ B) (hB : B ≤ S.M.length) (hq : qSlice P t = some (e, k, by_)) (ht : ∃ e', P.underlying t = some (.slice e'))
    (hz : (P.info? e).any (fun i => i.zero.any fun z => z.cells.size == k) = true) (h1 : (cellsL R l).all (fun u => u.oneCell') = true) (hn : n * by_ ≤ 140737488355328) (hm : n ≤ maxLen) (hK : ∀ v' M', Acc R e B M' v' l → Same B S.M M' → K v' M') : appendK P b S K t t (.slice (some ⟨B, 0, none⟩) 0 0) (.slice (some ad) n c) := by
  have hl := h.1
  refine hA.extend (ls := l) hb hB hq hz (h.src hk ht) h1 (by simpa [hl] using hn) (by simpa [hl] using hm) ?_
  intro v' M' a b
  exact hK v' M' (by simpa using a) b
theorem Acc.fresh {R : RecV α k} {e : TypeId} {M M' : Mem} {v : Value} {l : List α} (h : Acc R e M.length M' v l) (hn : l.length ≤ 1099511627776) (hk : Keeps M M') : Fresh R M v M' l := by
  obtain ⟨A, n, c, rfl, hl, hA⟩ := h
  refine ⟨A, n, c, rfl, by omega, ?_⟩
  rcases hA with ⟨rfl, rfl, rfl⟩ | ⟨id, t, rfl, hid, hr⟩
  · exact ⟨⟨hl, fun h => by omega⟩, by simp, fun h => by omega, hk⟩
  · exact ⟨⟨hl, fun _ => ⟨id, 0, rfl, by simp [rowEsz, hr], fun j x hx => by simp [cellAt, hr, hx]⟩⟩, fun a e => by injection e with e; subst e; exact hid, fun _ => ⟨_, _, _, rfl, hr, rfl⟩, hk⟩
theorem OwL.nil {R : RecV α k} {lo hi : Nat} {M : Mem} : OwL R lo hi M (.slice none 0 0) [] := by
  refine ⟨none, 0, 0, rfl, by omega, ⟨rfl, fun h => by omega⟩, ?_, ?_⟩
  · intro a h; cases h
  · intro h; omega
end
end Go.Proofs.Ytffbocbjmhkikaa
