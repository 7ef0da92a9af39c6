/- Parts of the proof, together: Lists that grow by append. Bytes and strings; the text of a number, as the library and as the reference write it. strconv.FormatInt at this program: where the contract of the library lies (seat r15.ZD's own numbers). strconv.FormatInt: the contract over abstract states. A number's text: the reference's, and the program's. strings.Join and strings.Repeat at this program: where the contracts of the  No conditions. -/
import Derived.Test.YtodbjnngkonklaaGreatDoorZzA7
import Derived.Lib.ItoaLen
import Derived.Shelf.Strconv.Itoa4
import Derived.Test.YtodbjnngkonklaaGreatDoorProg
import Derived.Shelf.Strings.OnBuilder
import Derived.Shelf.Strings.Repeat
namespace Go.Proofs.YtodbjnngkonklaaGreatDoor
open Go.RowKit
set_option linter.unusedVariables false
set_option linter.unusedSimpArgs false
set_option maxRecDepth 100000
attribute [local simp] List.getElem?_cons_zero
attribute [local irreducible] awCond awCall awLoop awDraw ow retQ retC resQ Keeps
section
variable {α : Type} {k : Nat}
/-- The value v is a list in a row of one's own, from id B on, that append can grow. -/
def Acc (R : RecV α k) (e : TypeId) (B : Nat) (M : Mem) (v : Value) (l : List α) : Prop :=
  ∃ A n c, v = .slice A n c ∧ l.length = n ∧ ((A = none ∧ n = 0 ∧ c = 0) ∨ ∃ id t, A = some ⟨id, 0, none⟩ ∧ B ≤ id ∧ M[id]? = some (.live ⟨cellsL R l, true, t, e, k⟩))
/-- Below B nothing has turned. -/
def Same (B : Nat) (M M' : Mem) : Prop := M.length ≤ M'.length ∧ ∀ (i : Nat) s, i < B → M[i]? = some s → M'[i]? = some s
theorem Same.keeps {B : Nat} {M0 M M' : Mem} (h : Same B M M') (hk : Keeps M0 M) (hb : M0.length ≤ B) : Keeps M0 M' := by
  unfold Keeps
  exact fun i s hs => h.2 i s (by have := (List.getElem?_eq_some_iff.1 hs).1; omega) (hk.get hs)
theorem Acc.keeps {R : RecV α k} {e : TypeId} {B : Nat} {M M' : Mem} {v : Value} {l : List α} (h : Acc R e B M v l) (hk : Keeps M M') : Acc R e B M' v l := by
  obtain ⟨A, n, c, h1, h2, h3⟩ := h
  refine ⟨A, n, c, h1, h2, ?_⟩
  rcases h3 with h3 | ⟨id, t, h4, h5, h6⟩
  · exact .inl h3
  · exact .inr ⟨id, t, h4, h5, hk.get h6⟩
theorem Acc.src {P : Program} {R : RecV α k} {e tx : TypeId} {B : Nat} {M : Mem} {v : Value} {l : List α} (h : Acc R e B M v l) (ht : ∃ e', P.underlying tx = some (.slice e')) : srcOf P M k tx v = some (l.length, cellsL R l) := by
  obtain ⟨e', ht⟩ := ht
  obtain ⟨A, n, c, rfl, hl, hA⟩ := h
  subst hl
  rcases hA with ⟨rfl, h0, rfl⟩ | ⟨id, t, rfl, hid, hr⟩
  · obtain rfl := List.eq_nil_of_length_eq_zero h0
    simp [srcOf, ht, cellsL]
  · have e : cellsAt M id 0 (l.length * k) = some (cellsL R l) := by
      unfold cellsAt
      rw [hr]
      simp only
      rw [if_pos (by rw [cellsL_len]; omega), List.drop_zero, List.take_of_length_le (by rw [cellsL_len]; omega)]
    rcases l with _ | ⟨x, l⟩
    · simp [srcOf, ht, cellsL]
    · simp at e
      simp [srcOf, ht, e]
theorem Sl.src {P : Program} {R : RecV α k} {tx : TypeId} {M : Mem} {ad : Addr} {n c : Nat} {l : List α} (h : Sl R M (some ad) n l) (hk : 0 < k) (ht : ∃ e', P.underlying tx = some (.slice e')) : srcOf P M k tx (.slice (some ad) n c) = some (l.length, cellsL R l) := by
  obtain ⟨e', ht⟩ := ht
  have hl := h.1
  by_cases h0 : n = 0
  · subst h0
    obtain rfl := List.eq_nil_of_length_eq_zero hl
    simp [srcOf, ht, cellsL]
  · obtain ⟨id, off, e, he, hc⟩ := h.2 (by omega)
    injection e with e
    subst e
    have e := cellsAt_of hc (by rw [cellsL_len, hl]) (Nat.mul_pos (by omega) hk)
    simp [srcOf, ht, e, h0, hl]
theorem nil_eq {P : Program} {t e : TypeId} {q : Option Addr} {n c : Nat} (h : P.underlying t = some (.slice e)) : binV P .eql t (.slice q n c) (.slice none 0 0) = some (.bool q.isNone) := by
  cases q <;> simp [binV, eqV, h, slNil, eqNil]
theorem Acc.set_ne {R : RecV α k} {e : TypeId} {B : Nat} {M : Mem} {v : Value} {l : List α} {i : Nat} {s : Slot} (h : Acc R e B M v l) (hi : i < B) : Acc R e B (M.set i s) v l := by
  obtain ⟨A, n, c, h1, h2, h3⟩ := h
  refine ⟨A, n, c, h1, h2, ?_⟩
  rcases h3 with h3 | ⟨id, t, h4, h5, h6⟩
  · exact .inl h3
  · exact .inr ⟨id, t, h4, h5, by rw [List.getElem?_set_ne (by omega)]; exact h6⟩
theorem Acc.low {R : RecV α k} {e : TypeId} {B B' : Nat} {M : Mem} {v : Value} {l : List α} (h : Acc R e B M v l) (hb : B' ≤ B) : Acc R e B' M v l := by
  obtain ⟨A, n, c, h1, h2, h3⟩ := h
  refine ⟨A, n, c, h1, h2, ?_⟩
  rcases h3 with h3 | ⟨id, t, h4, h5, h6⟩
  · exact .inl h3
  · exact .inr ⟨id, t, h4, by omega, h6⟩
theorem Acc.sl {R : RecV α k} {e : TypeId} {B : Nat} {M : Mem} {v : Value} {l : List α} (h : Acc R e B M v l) : ∃ A n c, v = .slice A n c ∧ l.length = n ∧ Sl R M A n l ∧ oneV v = true := by
  obtain ⟨A, n, c, rfl, hl, hA⟩ := h
  refine ⟨A, n, c, rfl, hl, ?_, rfl⟩
  rcases hA with ⟨rfl, rfl, rfl⟩ | ⟨id, t, rfl, hid, hr⟩
  · exact ⟨hl, fun h => by omega⟩
  · exact ⟨hl, fun _ => ⟨id, 0, rfl, by simp [rowEsz, hr], fun j x hx => by simp [cellAt, hr, hx]⟩⟩
theorem Acc.nil {R : RecV α k} {e : TypeId} {B : Nat} {M : Mem} : Acc R e B M (.slice none 0 0) [] := ⟨none, 0, 0, rfl, rfl, .inl ⟨rfl, rfl, rfl⟩⟩
theorem Acc.append {P : Program} {R : RecV α k} {e t tx : TypeId} {B b by_ : Nat} {S : St} {v x : Value} {l : List α} {a : α} {K : Value → Mem → Prop} (h : Acc R e B S.M v l) (hb : b ≤ B) (hB : B ≤ S.M.length) (hk : 0 < k) (hq : qSlice P t = some (e, k, by_))
    (hz : (P.info? e).any (fun i => i.zero.any fun z => z.cells.size == k) = true) (hs : srcOf P S.M k tx x = some (1, R.row a)) (h1 : (R.row a).all (fun u => u.oneCell') = true) (hn : (l.length + 1) * by_ ≤ 140737488355328) (hm : l.length + 1 ≤ maxLen)
    (hK : ∀ v' M', Acc R e B M' v' (l ++ [a]) → Same B S.M M' → K v' M') : appendK P b S K t tx v x := by
  obtain ⟨A, n, c, rfl, hl, hA⟩ := h
  subst hl
  unfold appendK
  rw [hq]
  simp only [ow_some]
  rw [hs]
  simp only [ow_some]
  refine ⟨hz, h1, ?_⟩
  rcases hA with ⟨rfl, h0, rfl⟩ | ⟨id, tt, rfl, hid, hr⟩
  · obtain rfl := List.eq_nil_of_length_eq_zero h0
    refine ⟨⟨rfl, rfl⟩, by simpa using hn, by simpa using hm, fun h => by omega, fun _ => hK _ _ ⟨_, _, _, rfl, rfl, .inr ⟨S.M.length, false, rfl, hB, ?_⟩⟩ ⟨by simp, fun i s _ hs => ?_⟩⟩
    · rw [getElem?_snoc_eq]; simp [cellsL]
    · rw [List.getElem?_append_left (List.getElem?_eq_some_iff.1 hs).1]; exact hs
  · have hlt := (List.getElem?_eq_some_iff.1 hr).1
    simp only [hr]
    refine ⟨⟨trivial, by rw [cellsL_len], trivial, trivial⟩, hn, hm, fun h => by omega, fun _ => ?_⟩
    split
    · refine hK _ _ ⟨_, _, _, rfl, by simp, .inr ⟨S.M.length, false, rfl, hB, ?_⟩⟩ ⟨by simp, fun i s _ hs => ?_⟩
      · rw [getElem?_snoc_eq, cellsL_snoc]
      · rw [List.getElem?_append_left (List.getElem?_eq_some_iff.1 hs).1]; exact hs
    · refine ⟨by omega, hK _ _ ⟨_, _, _, rfl, by simp, .inr ⟨S.M.length, false, rfl, hB, ?_⟩⟩ ⟨by simp, fun i s hi hs => ?_⟩⟩
      · rw [List.getElem?_append_right (by simp), List.length_set, Nat.sub_self, cellsL_snoc]; rfl
      · rw [List.getElem?_append_left (by simpa using (List.getElem?_eq_some_iff.1 hs).1), List.getElem?_set_ne (by omega)]; exact hs
theorem Same.refl (B : Nat) (M : Mem) : Same B M M := ⟨Nat.le_refl _, fun _ _ _ h => h⟩
/-- The value does not lie in row i. -/
def Apart (v : Value) (i : Nat) : Prop := ∀ (A : Option Addr) (n c : Nat) (a : Addr), v = .slice A n c → A = some a → i ≠ a.block
theorem apart_new {M : Mem} {i : Nat} {s : Slot} {n c : Nat} (h : M[i]? = some s) : Apart (.slice (some ⟨M.length, 0, none⟩) n c) i := by
  intro A n' c' a e ea
  injection e with e1
  subst e1
  injection ea with ea
  subst ea
  have := (List.getElem?_eq_some_iff.1 h).1
  show i ≠ M.length
  omega
theorem Acc.apart {R : RecV α k} {e : TypeId} {B : Nat} {M : Mem} {v : Value} {l : List α} (h : Acc R e B M v l) {i : Nat} (hi : M.length ≤ i) : Apart v i := by
  obtain ⟨A, n, c, rfl, hl, hA⟩ := h
  intro A' n' c' a e ea
  injection e with e1
  subst e1
  rcases hA with ⟨rfl, _⟩ | ⟨id, t, rfl, hid, hr⟩
  · cases ea
  · injection ea with ea
    subst ea
    have := (List.getElem?_eq_some_iff.1 hr).1
    show i ≠ id
    omega
theorem Acc.extend2 {P : Program} {R : RecV α k} {e t tx : TypeId} {B b by_ : Nat} {S : St} {v x : Value} {l ls : List α} {K : Value → Mem → Prop} (h : Acc R e B S.M v l) (hb : b ≤ B) (hB : B ≤ S.M.length) (hq : qSlice P t = some (e, k, by_))
    (hz : (P.info? e).any (fun i => i.zero.any fun z => z.cells.size == k) = true) (hs : srcOf P S.M k tx x = some (ls.length, cellsL R ls)) (h1 : (cellsL R ls).all (fun u => u.oneCell') = true) (hn : (l.length + ls.length) * by_ ≤ 140737488355328) (hm : l.length + ls.length ≤ maxLen)
    (hK : ∀ v' M', Acc R e B M' v' (l ++ ls) → Same B S.M M' → (∀ (i : Nat) s, Apart v i → S.M[i]? = some s → M'[i]? = some s ∧ Apart v' i) → K v' M') : appendK P b S K t tx v x := by
  obtain ⟨A, n, c, rfl, hl, hA⟩ := h
  subst hl
  unfold appendK
  rw [hq]
  simp only [ow_some]
  rw [hs]
  simp only [ow_some]
  refine ⟨hz, h1, ?_⟩
  rcases hA with ⟨rfl, h0, rfl⟩ | ⟨id, tt, rfl, hid, hr⟩
  · obtain rfl := List.eq_nil_of_length_eq_zero h0
    refine ⟨⟨rfl, rfl⟩, by simpa using hn, by simpa using hm, fun h => ?_, fun _ => hK _ _ ⟨_, _, _, rfl, by simp, .inr ⟨S.M.length, false, rfl, hB, ?_⟩⟩ ⟨by simp, fun i s _ hs => ?_⟩ fun i s ha hs => ⟨?_, apart_new hs⟩⟩
    · obtain rfl := List.eq_nil_of_length_eq_zero h
      exact hK _ _ .nil (.refl _ _) fun i s ha hs => ⟨hs, ha⟩
    · rw [getElem?_snoc_eq]; simp
    · rw [List.getElem?_append_left (List.getElem?_eq_some_iff.1 hs).1]; exact hs
    · rw [List.getElem?_append_left (List.getElem?_eq_some_iff.1 hs).1]; exact hs
  · have hlt := (List.getElem?_eq_some_iff.1 hr).1
    simp only [hr]
    refine ⟨⟨trivial, by rw [cellsL_len], trivial, trivial⟩, hn, hm, fun h => ?_, fun _ => ?_⟩
    · obtain rfl := List.eq_nil_of_length_eq_zero h
      exact hK _ _ ⟨_, _, _, rfl, by simp, .inr ⟨id, tt, rfl, hid, by simpa using hr⟩⟩ (.refl _ _) fun i s ha hs => ⟨hs, ha⟩
    split
    · refine hK _ _ ⟨_, _, _, rfl, by simp, .inr ⟨S.M.length, false, rfl, hB, ?_⟩⟩ ⟨by simp, fun i s _ hs => ?_⟩ fun i s ha hs => ⟨?_, apart_new hs⟩
      · rw [getElem?_snoc_eq, cellsL_append]
      · rw [List.getElem?_append_left (List.getElem?_eq_some_iff.1 hs).1]; exact hs
      · rw [List.getElem?_append_left (List.getElem?_eq_some_iff.1 hs).1]; exact hs
    · refine ⟨by omega, hK _ _ ⟨_, _, _, rfl, by simp, .inr ⟨S.M.length, false, rfl, hB, ?_⟩⟩ ⟨by simp, fun i s hi hs => ?_⟩ fun i s ha hs => ⟨?_, apart_new hs⟩⟩
      · rw [List.getElem?_append_right (by simp), List.length_set, Nat.sub_self, cellsL_append]; rfl
      · rw [List.getElem?_append_left (by simpa using (List.getElem?_eq_some_iff.1 hs).1), List.getElem?_set_ne (by omega)]; exact hs
      · have := ha _ _ _ _ rfl rfl
        rw [List.getElem?_append_left (by simpa using (List.getElem?_eq_some_iff.1 hs).1), List.getElem?_set_ne (Ne.symm (by simpa using this))]; exact hs
theorem Acc.extend {P : Program} {R : RecV α k} {e t tx : TypeId} {B b by_ : Nat} {S : St} {v x : Value} {l ls : List α} {K : Value → Mem → Prop} (h : Acc R e B S.M v l) (hb : b ≤ B) (hB : B ≤ S.M.length) (hq : qSlice P t = some (e, k, by_))
    (hz : (P.info? e).any (fun i => i.zero.any fun z => z.cells.size == k) = true) (hs : srcOf P S.M k tx x = some (ls.length, cellsL R ls)) (h1 : (cellsL R ls).all (fun u => u.oneCell') = true) (hn : (l.length + ls.length) * by_ ≤ 140737488355328) (hm : l.length + ls.length ≤ maxLen)
    (hK : ∀ v' M', Acc R e B M' v' (l ++ ls) → Same B S.M M' → K v' M') : appendK P b S K t tx v x := h.extend2 hb hB hq hz hs h1 hn hm fun v' M' a b _ => hK v' M' a b
theorem Acc.append2 {P : Program} {R : RecV α k} {e t tx : TypeId} {B b by_ : Nat} {S : St} {v x : Value} {l : List α} {a : α} {K : Value → Mem → Prop} (h : Acc R e B S.M v l) (hb : b ≤ B) (hB : B ≤ S.M.length) (_hk : 0 < k) (hq : qSlice P t = some (e, k, by_))
    (hz : (P.info? e).any (fun i => i.zero.any fun z => z.cells.size == k) = true) (hs : srcOf P S.M k tx x = some (1, R.row a)) (h1 : (R.row a).all (fun u => u.oneCell') = true) (hn : (l.length + 1) * by_ ≤ 140737488355328) (hm : l.length + 1 ≤ maxLen)
    (hK : ∀ v' M', Acc R e B M' v' (l ++ [a]) → Same B S.M M' → (∀ (i : Nat) s, Apart v i → S.M[i]? = some s → M'[i]? = some s ∧ Apart v' i) → K v' M') : appendK P b S K t tx v x :=
  h.extend2 (ls := [a]) hb hB hq hz (by rw [hs]; simp [cellsL]) (by simpa [cellsL] using h1) (by simpa using hn) (by simpa using hm) hK
theorem cloneX {P : Program} {R : RecV α k} {e t : TypeId} {B b by_ : Nat} {S : St} {ad : Addr} {n c : Nat} {l : List α} {K : Value → Mem → Prop} (h : Sl R S.M (some ad) n l) (hk : 0 < k) (hA : Acc R e B S.M (.slice (some ⟨B, 0, none⟩) 0 0) []) (hb : b ≤ B) (hB : B ≤ S.M.length) (hq : qSlice P t = some (e, k, by_)) (ht : ∃ e', P.underlying t = some (.slice e'))
    (hz : (P.info? e).any (fun i => i.zero.any fun z => z.cells.size == k) = true) (h1 : (cellsL R l).all (fun u => u.oneCell') = true) (hn : n * by_ ≤ 140737488355328) (hm : n ≤ maxLen) (hK : ∀ v' M', Acc R e B M' v' l → Same B S.M M' → K v' M') : appendK P b S K t t (.slice (some ⟨B, 0, none⟩) 0 0) (.slice (some ad) n c) := by
  have hl := h.1
  refine hA.extend (ls := l) hb hB hq hz (h.src hk ht) h1 (by simpa [hl] using hn) (by simpa [hl] using hm) ?_
  intro v' M' a b
  exact hK v' M' (by simpa using a) b
theorem Acc.fresh {R : RecV α k} {e : TypeId} {M M' : Mem} {v : Value} {l : List α} (h : Acc R e M.length M' v l) (hn : l.length ≤ 1099511627776) (hk : Keeps M M') : Fresh R M v M' l := by
  obtain ⟨A, n, c, rfl, hl, hA⟩ := h
  refine ⟨A, n, c, rfl, by omega, ?_⟩
  rcases hA with ⟨rfl, rfl, rfl⟩ | ⟨id, t, rfl, hid, hr⟩
  · exact ⟨⟨hl, fun h => by omega⟩, by simp, fun h => by omega, hk⟩
  · exact ⟨⟨hl, fun _ => ⟨id, 0, rfl, by simp [rowEsz, hr], fun j x hx => by simp [cellAt, hr, hx]⟩⟩, fun a e => by injection e with e; subst e; exact hid, fun _ => ⟨_, _, _, rfl, hr, rfl⟩, hk⟩
theorem OwL.nil {R : RecV α k} {lo hi : Nat} {M : Mem} : OwL R lo hi M (.slice none 0 0) [] := by
  refine ⟨none, 0, 0, rfl, by omega, ⟨rfl, fun h => by omega⟩, ?_, ?_⟩
  · intro a h; cases h
  · intro h; omega
end
end Go.Proofs.YtodbjnngkonklaaGreatDoor

namespace Go.Proofs.YtodbjnngkonklaaGreatDoor
open Go.RowKit
set_option linter.unusedVariables false
set_option linter.unusedSimpArgs false
set_option maxRecDepth 100000
attribute [local simp] List.getElem?_cons_zero
attribute [local irreducible] awCond awCall awLoop awDraw ow retQ retC resQ Keeps
def byteR : RecV Int 1 := ⟨fun n => [.int .u8 n], fun _ => rfl⟩
theorem cellsL_byte (l : List Int) : cellsL byteR l = l.map (.int .u8) := by
  induction l with
  | nil => rfl
  | cons a l ih => rw [cellsL_cons, ih]; rfl
def bstr (l : List Int) : ByteArray := ⟨(l.map fun n => UInt8.ofNat n.toNat).toArray⟩
theorem mapM_byte : ∀ (l : List Int), (cellsL byteR l).mapM byteV = some (l.map fun n => UInt8.ofNat n.toNat)
  | [] => rfl
  | a :: l => by
    rw [cellsL_cons, show byteR.row a ++ cellsL byteR l = .int .u8 a :: cellsL byteR l from rfl, List.mapM_cons, mapM_byte l]
    rfl
theorem byte_one (l : List Int) : (cellsL byteR l).all (fun u => u.oneCell') = true := by
  rw [cellsL_byte, List.all_map, List.all_eq_true]
  exact fun x _ => rfl
theorem acc_str {P : Program} {S : St} {src dst e : TypeId} {B by_ : Nat} {u : Value} {l : List Int} {K : Value → Mem → Prop} (hA : Acc byteR e B S.M u l) (h1 : P.underlying dst = some .string) (h2 : qSlice P src = some (e, 1, by_)) (h3 : P.underlying e = some (.int .u8)) (hK : K (.string (bstr l)) S.M) : b2sK P S K src dst u := by
  obtain ⟨A, n, c, rfl, hl, hA⟩ := hA
  subst hl
  refine ⟨h1, ow_iff.2 ⟨_, h2, h3, rfl, ?_⟩⟩
  rcases hA with ⟨rfl, h0, rfl⟩ | ⟨id, t, rfl, hid, hr⟩
  · obtain rfl := List.eq_nil_of_length_eq_zero h0
    exact ⟨⟨rfl, rfl⟩, hK⟩
  · have e : cellsAt S.M id 0 l.length = some (cellsL byteR l) := by
      unfold cellsAt
      rw [hr]
      simp only
      rw [if_pos (by rw [cellsL_len]; omega), List.drop_zero, List.take_of_length_le (by rw [cellsL_len]; omega)]
    exact ow_iff.2 ⟨_, e, ow_iff.2 ⟨_, mapM_byte l, hK⟩⟩

/-- A number's text. -/
def decI (n : Int) : List Int := (Lib.itoa n).map fun c => (c.toNat : Int)
def decS (n : Int) : ByteArray := ⟨(Lib.itoa n).toArray⟩
theorem ofNat_back (c : UInt8) : UInt8.ofNat ((c.toNat : Int)).toNat = c := by simp
theorem bstr_back (l : List UInt8) : bstr (l.map fun c => (c.toNat : Int)) = ⟨l.toArray⟩ := by
  unfold bstr
  rw [List.map_map]
  congr 2
  have e : ((fun n : Int => UInt8.ofNat n.toNat) ∘ fun c : UInt8 => (c.toNat : Int)) = id := funext fun c => ofNat_back c
  rw [e, List.map_id]
theorem bstr_dec (n : Int) : bstr (decI n) = decS n := bstr_back _
theorem decS_size (n : Int) (h0 : -9223372036854775808 ≤ n) (h1 : n ≤ 9223372036854775807) : (decS n).size ≤ 21 := by
  have := Lib.itoa_length_le n h0 h1
  simpa [decS, ByteArray.size] using this
/-- The digits of a number; none of 0. -/
def digI (u : Nat) : List Int := if u = 0 then [] else (Lib.decDigits u).map fun c => (c.toNat : Int)
theorem digI_zero : digI 0 = [] := rfl
theorem digit_back (d : Nat) (h : d < 10) : ((UInt8.ofNat (48 + d)).toNat : Int) = 48 + d := by
  have : (48 + d) % 256 = 48 + d := Nat.mod_eq_of_lt (by omega)
  simp [this]
theorem digI_step {u : Nat} (h : 0 < u) : digI u = digI (u / 10) ++ [((48 + u % 10 : Nat) : Int)] := by
  unfold digI
  rw [if_neg (by omega), Lib.decDigits]
  by_cases h10 : u < 10
  · rw [dif_pos h10, if_pos (by omega)]
    have e : u % 10 = u := Nat.mod_eq_of_lt h10
    simp only [List.map_cons, List.map_nil, List.nil_append, e, digit_back u h10]
    simp
  · rw [dif_neg h10, if_neg (by omega), List.map_append]
    simp only [List.map_cons, List.map_nil, digit_back (u % 10) (Nat.mod_lt _ (by omega))]
    simp
theorem digI_len : ∀ (m u : Nat), u < 10 ^ m → (digI u).length ≤ m
  | 0, u, h => by obtain rfl : u = 0 := by simpa using h; 
                  simp [digI]
  | m + 1, u, h => by
    rcases Nat.eq_zero_or_pos u with rfl | h0
    · simp [digI]
    · rw [digI_step h0]
      have := digI_len m (u / 10) (by rw [Nat.pow_succ] at h; omega)
      simp; omega
theorem decI_pos {u : Nat} (h : 0 < u) : decI (u : Int) = digI u := by
  unfold decI digI
  rw [Lib.itoa_nonneg, if_neg (by omega)]
theorem decI_neg {u : Nat} (h : 0 < u) : decI (-(u : Int)) = 45 :: digI u := by
  unfold decI digI
  rw [Lib.itoa_neg u h, if_neg (by omega)]
  rfl
theorem decI_zero : decI 0 = [48] := by
  have e : Lib.itoa 0 = [48] := by
    have := Lib.itoa_nonneg 0
    simp only [Int.natCast_zero] at this
    rw [this, Lib.decDigits_one (by omega)]
    rfl
  simp [decI, e]
theorem bstr_app (k l : List Int) : bstr (k ++ l) = bstr k ++ bstr l := by
  simp [bstr, ByteArray.ext_iff]
end Go.Proofs.YtodbjnngkonklaaGreatDoor

namespace Go.Proofs.YtodbjnngkonklaaGreatDoor
open Go.Shelf
def fmtInt_ren : Go.Shelf.Ren := ⟨fun | 173 => 50 | 246 => 69 | 283 => 82 | 284 => 83 | 285 => 84 | 286 => 85 | 129 => 94 | 317 => 93 | 318 => 95 | 319 => 96 | 320 => 97 | 337 => 101 | 338 => 102 | n => n, fun | 2 => 2 | 3 => 3 | 9 => 9 | 4 => 4 | 171 => 105 | 0 => 0 | 53 => 100 | 37 => 47 | 5 => 5 | 173 => 108 | 212 => 120 | 51 => 121 | 20 => 20 | 213 => 122 | 46 => 113 | 232 => 130 | 233 => 131 | n => n, fun | 17 => 0 | 18 => 2 | 19 => 3 | n => n⟩
theorem fmtInt : Go.Proofs.LaysM.n173 Tryz.prog fmtInt_ren := {
  mixed := by kernel_rfl
  f129 := Tryz.func94.trans (congrArg some (by kernel_rfl))
  f173 := Tryz.func50.trans (congrArg some (by kernel_rfl))
  f246 := Tryz.func69.trans (congrArg some (by kernel_rfl))
  f283 := Tryz.func82.trans (congrArg some (by kernel_rfl))
  f284 := Tryz.func83.trans (congrArg some (by kernel_rfl))
  f285 := Tryz.func84.trans (congrArg some (by kernel_rfl))
  f286 := Tryz.func85.trans (congrArg some (by kernel_rfl))
  f317 := Tryz.func93.trans (congrArg some (by kernel_rfl))
  f318 := Tryz.func95.trans (congrArg some (by kernel_rfl))
  f319 := Tryz.func96.trans (congrArg some (by kernel_rfl))
  f320 := Tryz.func97.trans (congrArg some (by kernel_rfl))
  f337 := Tryz.func101.trans (congrArg some (by kernel_rfl))
  f338 := Tryz.func102.trans (congrArg some (by kernel_rfl))
  t0 := Tryz.underlying0
  a0 := Tryz.isAgg0
  z0 := Tryz.sizeOf0
  v0 := Tryz.zeroValue0
  t2 := Tryz.underlying2
  a2 := Tryz.isAgg2
  z2 := Tryz.sizeOf2
  v2 := Tryz.zeroValue2
  t3 := Tryz.underlying3
  a3 := Tryz.isAgg3
  z3 := Tryz.sizeOf3
  v3 := Tryz.zeroValue3
  t4 := Tryz.underlying4
  a4 := Tryz.isAgg4
  z4 := Tryz.sizeOf4
  v4 := Tryz.zeroValue4
  t5 := Tryz.underlying5
  a5 := Tryz.isAgg5
  z5 := Tryz.sizeOf5
  v5 := Tryz.zeroValue5
  t9 := Tryz.underlying9
  a9 := Tryz.isAgg9
  z9 := Tryz.sizeOf9
  v9 := Tryz.zeroValue9
  t20 := Tryz.underlying20
  a20 := Tryz.isAgg20
  z20 := Tryz.sizeOf20
  v20 := Tryz.zeroValue20
  t37 := Tryz.underlying47
  a37 := Tryz.isAgg47
  z37 := Tryz.sizeOf47
  v37 := Tryz.zeroValue47
  t46 := Tryz.underlying113
  a46 := Tryz.isAgg113
  z46 := Tryz.sizeOf113
  v46 := Tryz.zeroValue113
  t51 := Tryz.underlying121
  a51 := Tryz.isAgg121
  z51 := Tryz.sizeOf121
  v51 := Tryz.zeroValue121
  t53 := Tryz.underlying100
  a53 := Tryz.isAgg100
  z53 := Tryz.sizeOf100
  v53 := Tryz.zeroValue100
  t171 := Tryz.underlying105
  a171 := Tryz.isAgg105
  z171 := Tryz.sizeOf105
  v171 := Tryz.zeroValue105
  t173 := Tryz.underlying108
  a173 := Tryz.isAgg108
  z173 := Tryz.sizeOf108
  v173 := Tryz.zeroValue108
  t212 := Tryz.underlying120
  a212 := Tryz.isAgg120
  z212 := Tryz.sizeOf120
  v212 := Tryz.zeroValue120
  t213 := Tryz.underlying122
  a213 := Tryz.isAgg122
  z213 := Tryz.sizeOf122
  t232 := Tryz.underlying130
  a232 := Tryz.isAgg130
  z232 := Tryz.sizeOf130
  v232 := Tryz.zeroValue130
  t233 := Tryz.underlying131
  a233 := Tryz.isAgg131
  z233 := Tryz.sizeOf131
  v233 := Tryz.zeroValue131
  g17 := by kernel_rfl
  g18 := by kernel_rfl
  g19 := by kernel_rfl
  i0 := by kernel_rfl
  i2 := by kernel_rfl
  i3 := by kernel_rfl
  i4 := by kernel_rfl
  i5 := by kernel_rfl
  i9 := by kernel_rfl
  i20 := by kernel_rfl
  i37 := by kernel_rfl
  i46 := by kernel_rfl
  i51 := by kernel_rfl
  i53 := by kernel_rfl
  i171 := by kernel_rfl
  i173 := by kernel_rfl
  i212 := by kernel_rfl
  i232 := by kernel_rfl
  i233 := by kernel_rfl
  m17 := by kernel_rfl
  m18 := by kernel_rfl
  m19 := by kernel_rfl }
end Go.Proofs.YtodbjnngkonklaaGreatDoor

namespace Go.Proofs.YtodbjnngkonklaaGreatDoor
open Go.Shelf Go.Lib Go.Sort
open Go.RowKit
set_option linter.unusedVariables false
set_option linter.unusedSimpArgs false
set_option maxRecDepth 100000
attribute [local simp] List.getElem?_cons_zero
attribute [local irreducible] awCond awCall awLoop awDraw ow retQ retC resQ Keeps
theorem tab_of {w : World} {name : String} (hn : Tryz.prog.globalNamed name = some 0) (h : GOk w.heap[gB]?) : Lib.TabIs Tryz.prog w name .u64 Lib.pow10Tab := by
  obtain ⟨e, fr, h⟩ := h
  have e0 : gB = 0 := rfl
  rw [e0] at h
  unfold Lib.TabIs World.var?
  rw [hn]
  simp only [Option.bind_some, h]
theorem grow_sim {M : Mem} {μ : Map} {w : World} {b : Nat} (hS : Sim M μ w) (k : Nat) (os : Array Obj) : Sim M μ (grow (w.drewN k) os) ∧ Step b M μ w M μ (grow (w.drewN k) os) := by
  have hb : ∀ i, i < w.heap.size → (grow (w.drewN k) os).heap[i]? = w.heap[i]? := fun i hi => heap_grow_old (w.drewN k) os hi
  have hs : w.heap.size ≤ (grow (w.drewN k) os).heap.size := by rw [size_grow]; exact Nat.le_add_right _ _
  exact ⟨hS.grow hb hs, fun i s h => ⟨s, h, Slot.evolves_refl _ _⟩, fun _ _ => ⟨rfl, rfl⟩, rfl, rfl, rfl, hs, fun i hi _ _ => hb i hi, fun i r' es hi h => absurd (List.getElem?_eq_some_iff.1 h).1 (by omega), fun i r' hi h => absurd (List.getElem?_eq_some_iff.1 h).1 (by omega)⟩
theorem FormatInt_a {M : Mem} {b : Nat} (n : Int) (h0 : -9223372036854775808 ≤ n) (h1 : n ≤ 9223372036854775807) : Det Tryz.prog b 50 [iv n, iv 10] M (.string (decS n)) M := by
  refine ⟨⟨_, Tryz.func50, rfl, rfl⟩, fun μ w cs hl hS => ?_⟩
  obtain rfl : cs = [iv n, iv 10] := by
    match cs, hl with
    | [u, v], h =>
      have a1 := (h.2 0 _ _ rfl rfl).of_plain (show plainV (iv n) = true from rfl)
      have a2 := (h.2 1 _ _ rfl rfl).of_plain (show plainV (iv 10) = true from rfl)
      rw [a1, a2]
    | [], h => have := h.1; simp at this
    | [_], h => have := h.1; simp at this
    | _ :: _ :: _ :: _, h => have := h.1; simp at this
  refine Calls.mono (Any.strconv_FormatInt_10 fmtInt n h0 h1 w (tab_of (by kernel_rfl) (hS.glob rfl).1)) ?_
  rintro e w' ⟨rfl, k, os, rfl⟩
  obtain ⟨g1, g2⟩ := grow_sim (b := b) hS k os
  exact ⟨_, μ, rfl, .plain rfl, g1, g2⟩
end Go.Proofs.YtodbjnngkonklaaGreatDoor

namespace Go.Proofs.YtodbjnngkonklaaGreatDoor
open Go.RowKit
set_option linter.unusedVariables false
set_option linter.unusedSimpArgs false
set_option maxRecDepth 100000
attribute [local simp] List.getElem?_cons_zero
attribute [local irreducible] awCond awCall awLoop awDraw ow retQ retC resQ Keeps
theorem wrap_u8 {x : Int} (h1 : 0 ≤ x) (h2 : x ≤ 255) : IntKind.u8.wrap x = x := by
  have e : (2 : Int) ^ IntKind.u8.bits = 256 := by decide
  have e2 : IntKind.u8.signed = false := rfl
  simp only [IntKind.wrap, e, e2]
  simp
  omega
/-- At most f bytes, from p on. -/
theorem fill_byte {z : Value} {kd : IntKind} {n : Int} : Instr.fill (fun i => some (i, 1)) (zrow [z] 1).toArray [(0, .int kd n)] = some #[.int kd n] := by
  have := fill_int (z := z) (kd := kd) (n := n)
  simpa using this
theorem Decimal_a {M : Mem} (n : Int) (h0 : -9223372036854775808 ≤ n) (h1 : n ≤ 9223372036854775807) : Det Tryz.prog M.length 31 [iv n] M (.string (decS n)) M := by
  first | (refine det_fn Tryz.func31 rfl Tryz.ntmps31 Tryz.results31 rfl rfl rfl (by simp) ?_) | (refine det_fnC Tryz.func31 rfl Tryz.ntmps31 Tryz.results31 rfl rfl (by simp) ?_)
  simp
  refine awCall_det' (FormatInt_a (b := M.length) n h0 h1) (by omega) ?_
  simp [Keeps.refl]
theorem tmod_ten (q : Int) : q.tmod 10 = if 0 ≤ q then ((q.natAbs % 10 : Nat) : Int) else -((q.natAbs % 10 : Nat) : Int) := by
  split
  · rename_i h
    obtain ⟨c, rfl⟩ := Int.eq_ofNat_of_zero_le h
    rw [Int.tmod_eq_emod_of_nonneg (by omega)]
    simp
  · rename_i h
    obtain ⟨c, rfl⟩ : ∃ c : Nat, q = -(c : Int) := ⟨q.natAbs, by omega⟩
    rw [Int.neg_tmod, Int.tmod_eq_emod_of_nonneg (by omega)]
    simp
theorem tdiv_ten (q : Int) : (q.tdiv 10).natAbs = q.natAbs / 10 := by
  by_cases h : 0 ≤ q
  · obtain ⟨c, rfl⟩ := Int.eq_ofNat_of_zero_le h
    rw [Int.tdiv_eq_ediv_of_nonneg (by omega)]
    omega
  · obtain ⟨c, rfl⟩ : ∃ c : Nat, q = -(c : Int) := ⟨q.natAbs, by omega⟩
    rw [Int.neg_tdiv, Int.tdiv_eq_ediv_of_nonneg (by omega)]
    omega
set_option maxHeartbeats 1600000 in
theorem l01Dec_c {M : Mem} (n : Int) (h0 : -9223372036854775808 ≤ n) (h1 : n ≤ 9223372036854775807) : Ctr Tryz.prog M.length 20 [iv n] M fun v M' => v = .string (decS n) ∧ Keeps M M' := by
  first | (refine ctr_fn Tryz.func20 rfl Tryz.ntmps20 Tryz.results20 rfl rfl (by simp) ?_) | (refine ctr_fnC Tryz.func20 rfl Tryz.ntmps20 Tryz.results20 rfl (by simp) ?_)
  simp
  refine awLoop_T (fun m T M' => ∃ (q : Int) (l : List Int) (u : Value), Keeps M M' ∧ q.natAbs < 10 ^ m ∧ (-9223372036854775808 ≤ q ∧ q ≤ 9223372036854775807) ∧ l.length + m ≤ 19 ∧ digI n.natAbs = digI q.natAbs ++ l ∧ Acc byteR 5 M.length M' u l ∧ look T 4 = some (iv q) ∧ look T 3 = some u ∧ look T 0 = some (iv n)) 19 ⟨n, [], .slice (some ⟨M.length, 0, none⟩) 0 0, keeps_app _, by omega, ⟨h0, h1⟩, by simp, by simp, ⟨some ⟨M.length, 0, none⟩, 0, 0, rfl, by simp, .inr ⟨M.length, true, rfl, Nat.le_refl _, by simp [cellsL_byte]⟩⟩, by simp, by simp, by simp⟩ ?_
  rintro m T M' ⟨q, l, u, hK, hq, hqn, hl, hv, hA, h4, h3, h0'⟩
  have hKl := hK.len
  by_cases hz : q = 0
  · subst hz
    have hv' : digI n.natAbs = l := by rw [hv]; simp [digI]
    clear hv
    obtain ⟨A, nn, c, rfl, hln, -⟩ := id hA
    subst hln
    by_cases hn0 : n = 0
    · subst hn0
      have hl0 : l = [] := by rw [← hv']; rfl
      subst hl0
      simp (disch := omega) [h4, h3]
      refine ⟨?_, hK⟩
      rw [← bstr_dec, decI_zero]
      rfl
    · have hln : l.length ≠ 0 := by
        intro e
        have hl0 := List.eq_nil_of_length_eq_zero e
        subst hl0
        have hs := digI_step (u := n.natAbs) (by omega)
        rw [hv'] at hs
        have := congrArg List.length hs
        simp at this
      have hln' : ¬ (l.length : Int) = 0 := by omega
      by_cases hneg : n < 0
      · simp (disch := omega) [h4, h3, h0', hln, hln', hneg]
        refine acc_str (by_ := 1) (by exact hA) Tryz.underlying9 (by simp) Tryz.underlying5 ?_
        have hsz : (bstr l).size = l.length := by simp [bstr, ByteArray.size]
        have hsz1 : (⟨#[45]⟩ : ByteArray).size = 1 := rfl
        have hcc : ((⟨#[45]⟩ : ByteArray).size + (bstr l).size : Nat) ≤ 9223372036854775807 := by omega
        have hcc' : ¬ (((⟨#[45]⟩ : ByteArray).size + (bstr l).size : Nat) : Int) > IntKind.i64.max := by show ¬ _ > (9223372036854775807 : Int); omega
        simp only [strV, binV_str, hcc', if_false]
        simp
        refine ⟨?_, hK⟩
        obtain ⟨c0, rfl⟩ : ∃ c0 : Nat, n = -(c0 : Int) := ⟨n.natAbs, by omega⟩
        have e : (-(c0 : Int)).natAbs = c0 := by omega
        rw [e] at hv'
        rw [← bstr_dec, decI_neg (by omega), hv', show (45 :: l) = [45] ++ l from rfl, bstr_app]
        rfl
      · simp (disch := omega) [h4, h3, h0', hln, hln', hneg]
        refine acc_str (by_ := 1) (by exact hA) Tryz.underlying9 (by simp) Tryz.underlying5 ?_
        simp
        refine ⟨?_, hK⟩
        obtain ⟨c0, rfl⟩ : ∃ c0 : Nat, n = (c0 : Int) := ⟨n.natAbs, by omega⟩
        have e : (c0 : Int).natAbs = c0 := by omega
        rw [e] at hv'
        rw [← bstr_dec, decI_pos (by omega), hv']
  · obtain ⟨m, rfl⟩ : ∃ m', m = m' + 1 := ⟨m - 1, by rcases m with _ | m <;> simp at hq ⊢; omega⟩
    have hq0 : 0 < q.natAbs := by omega
    have hqb := hqn
    have hs := digI_step hq0
    have ht := tmod_ten q
    have hr : q.natAbs % 10 < 10 := Nat.mod_lt _ (by omega)
    obtain ⟨r, hr'⟩ : ∃ r : Nat, r = q.natAbs % 10 := ⟨_, rfl⟩
    rw [← hr'] at ht hs hr
    have hqd := tdiv_ten q
    have hdb : -9223372036854775808 ≤ q.tdiv 10 ∧ q.tdiv 10 ≤ 9223372036854775807 := by omega
    have hdg : digI n.natAbs = digI (q.tdiv 10).natAbs ++ ([((48 + r : Nat) : Int)] ++ l) := by rw [hv, hs, hqd, List.append_assoc]
    have hlt : (q.tdiv 10).natAbs < 10 ^ m := by rw [hqd]; rw [Nat.pow_succ] at hq; omega
    by_cases hp : 0 ≤ q
    · rw [if_pos hp] at ht
      have hnl : ¬ (r : Int) < 0 := by omega
      simp (disch := omega) [h4, h3, h0', hz, ht, hnl, wrap_in, wrap_u8, fill_byte]
      refine Acc.extend (R := byteR) (e := 5) (by_ := 1) (B := M.length) (l := [((48 + r : Nat) : Int)]) (ls := l) ⟨some ⟨M'.length, 0, none⟩, 1, 1, rfl, rfl, .inr ⟨M'.length, true, rfl, hKl, by simp [cellsL_byte]⟩⟩ (Nat.le_refl _) (by simp; omega) (by simp) (by kernel_rfl) ((hA.keeps (keeps_app _)).src ⟨_, Tryz.underlying47⟩) (byte_one _) (by simp; omega) (by unfold maxLen; simp; omega) ?_
      intro v2 M2 hA2 hS2
      have hK2 := hS2.keeps (hK.app _) (Nat.le_refl _)
      refine lpI m (by omega) ?_
      exact ⟨q.tdiv 10, _, v2, hK2, hlt, hdb, by simp; omega, hdg, hA2, by simp, by simp, by simp [h0']⟩
    · rw [if_neg hp] at ht
      by_cases hr0 : r = 0
      · subst hr0
        simp only [Int.natCast_zero, Int.neg_zero] at ht
        simp (disch := omega) [h4, h3, h0', hz, ht, wrap_in, wrap_u8, fill_byte]
        refine Acc.extend (R := byteR) (e := 5) (by_ := 1) (B := M.length) (l := [((48 + 0 : Nat) : Int)]) (ls := l) ⟨some ⟨M'.length, 0, none⟩, 1, 1, rfl, rfl, .inr ⟨M'.length, true, rfl, hKl, by simp [cellsL_byte]⟩⟩ (Nat.le_refl _) (by simp; omega) (by simp) (by kernel_rfl) ((hA.keeps (keeps_app _)).src ⟨_, Tryz.underlying47⟩) (byte_one _) (by simp; omega) (by unfold maxLen; simp; omega) ?_
        intro v2 M2 hA2 hS2
        have hK2 := hS2.keeps (hK.app _) (Nat.le_refl _)
        refine lpI m (by omega) ?_
        exact ⟨q.tdiv 10, _, v2, hK2, hlt, hdb, by simp; omega, hdg, hA2, by simp, by simp, by simp [h0']⟩
      · have hnl : 0 < r := by omega
        simp (disch := omega) [h4, h3, h0', hz, ht, hnl, wrap_in, wrap_u8, fill_byte]
        refine Acc.extend (R := byteR) (e := 5) (by_ := 1) (B := M.length) (l := [((48 + r : Nat) : Int)]) (ls := l) ⟨some ⟨M'.length, 0, none⟩, 1, 1, rfl, rfl, .inr ⟨M'.length, true, rfl, hKl, by simp [cellsL_byte]⟩⟩ (Nat.le_refl _) (by simp; omega) (by simp) (by kernel_rfl) ((hA.keeps (keeps_app _)).src ⟨_, Tryz.underlying47⟩) (byte_one _) (by simp; omega) (by unfold maxLen; simp; omega) ?_
        intro v2 M2 hA2 hS2
        have hK2 := hS2.keeps (hK.app _) (Nat.le_refl _)
        refine lpI m (by omega) ?_
        exact ⟨q.tdiv 10, _, v2, hK2, hlt, hdb, by simp; omega, hdg, hA2, by simp, by simp, by simp [h0']⟩
theorem l01Dec_a {M : Mem} (n : Int) (h0 : -9223372036854775808 ≤ n) (h1 : n ≤ 9223372036854775807) : Det Tryz.prog M.length 20 [iv n] M (.string (decS n)) M := (l01Dec_c n h0 h1).pure rfl
end Go.Proofs.YtodbjnngkonklaaGreatDoor

namespace Go.Proofs.YtodbjnngkonklaaGreatDoor
open Go.Shelf
def joinS_ren : Go.Shelf.Ren := ⟨fun | 156 => 33 | 165 => 53 | 166 => 54 | 169 => 55 | 240 => 70 | 241 => 71 | 276 => 86 | 277 => 87 | n => n, fun | 31 => 60 | 9 => 9 | 3 => 3 | 4 => 4 | 0 => 0 | 20 => 20 | 72 => 83 | 76 => 87 | 70 => 81 | 37 => 47 | 75 => 86 | 127 => 95 | 164 => 110 | 5 => 5 | 80 => 89 | n => n, fun | n => n⟩
theorem joinS : Go.Proofs.Lays.n156 Tryz.prog joinS_ren := {
  mixed := by kernel_rfl
  f156 := Tryz.func33.trans (congrArg some (by kernel_rfl))
  f165 := Tryz.func53.trans (congrArg some (by kernel_rfl))
  f166 := Tryz.func54.trans (congrArg some (by kernel_rfl))
  f169 := Tryz.func55.trans (congrArg some (by kernel_rfl))
  f240 := Tryz.func70.trans (congrArg some (by kernel_rfl))
  f241 := Tryz.func71.trans (congrArg some (by kernel_rfl))
  f276 := Tryz.func86.trans (congrArg some (by kernel_rfl))
  f277 := Tryz.func87.trans (congrArg some (by kernel_rfl))
  t0 := Tryz.underlying0
  a0 := Tryz.isAgg0
  z0 := Tryz.sizeOf0
  v0 := Tryz.zeroValue0
  t3 := Tryz.underlying3
  a3 := Tryz.isAgg3
  z3 := Tryz.sizeOf3
  v3 := Tryz.zeroValue3
  t4 := Tryz.underlying4
  a4 := Tryz.isAgg4
  z4 := Tryz.sizeOf4
  v4 := Tryz.zeroValue4
  t9 := Tryz.underlying9
  a9 := Tryz.isAgg9
  z9 := Tryz.sizeOf9
  v9 := Tryz.zeroValue9
  t20 := Tryz.underlying20
  a20 := Tryz.isAgg20
  z20 := Tryz.sizeOf20
  v20 := Tryz.zeroValue20
  t31 := Tryz.underlying60
  a31 := Tryz.isAgg60
  z31 := Tryz.sizeOf60
  v31 := Tryz.zeroValue60
  t37 := Tryz.underlying47
  a37 := Tryz.isAgg47
  z37 := Tryz.sizeOf47
  v37 := Tryz.zeroValue47
  t70 := Tryz.underlying81
  a70 := Tryz.isAgg81
  z70 := Tryz.sizeOf81
  v70 := Tryz.zeroValue81
  t72 := Tryz.underlying83
  a72 := Tryz.isAgg83
  z72 := Tryz.sizeOf83
  v72 := Tryz.zeroValue83
  t75 := Tryz.underlying86
  a75 := Tryz.isAgg86
  z75 := Tryz.sizeOf86
  v75 := Tryz.zeroValue86
  t76 := Tryz.underlying87
  a76 := Tryz.isAgg87
  z76 := Tryz.sizeOf87
  v76 := Tryz.zeroValue87
  t127 := Tryz.underlying95
  a127 := Tryz.isAgg95
  z127 := Tryz.sizeOf95
  v127 := Tryz.zeroValue95
  t164 := Tryz.underlying110
  a164 := Tryz.isAgg110
  z164 := Tryz.sizeOf110
  v164 := Tryz.zeroValue110 }
def repS_ren : Go.Shelf.Ren := ⟨fun | 105 => 81 | 212 => 90 | 99 => 91 | 165 => 53 | 166 => 54 | 170 => 92 | 169 => 55 | 263 => 98 | 264 => 99 | 206 => 100 | 240 => 70 | 241 => 71 | 276 => 86 | 277 => 87 | n => n, fun | 9 => 9 | 3 => 3 | 4 => 4 | 20 => 20 | 0 => 0 | 46 => 113 | 109 => 114 | 5 => 5 | 72 => 83 | 76 => 87 | 51 => 121 | 146 => 125 | 53 => 100 | 148 => 127 | 70 => 81 | 37 => 47 | 75 => 86 | 127 => 95 | 164 => 110 | 80 => 89 | n => n, fun | n => n⟩
theorem repS : Go.Proofs.Lays.n105 Tryz.prog repS_ren := {
  mixed := by kernel_rfl
  f99 := Tryz.func91.trans (congrArg some (by kernel_rfl))
  f105 := Tryz.func81.trans (congrArg some (by kernel_rfl))
  f165 := Tryz.func53.trans (congrArg some (by kernel_rfl))
  f166 := Tryz.func54.trans (congrArg some (by kernel_rfl))
  f169 := Tryz.func55.trans (congrArg some (by kernel_rfl))
  f170 := Tryz.func92.trans (congrArg some (by kernel_rfl))
  f206 := Tryz.func100.trans (congrArg some (by kernel_rfl))
  f212 := Tryz.func90.trans (congrArg some (by kernel_rfl))
  f240 := Tryz.func70.trans (congrArg some (by kernel_rfl))
  f241 := Tryz.func71.trans (congrArg some (by kernel_rfl))
  f263 := Tryz.func98.trans (congrArg some (by kernel_rfl))
  f264 := Tryz.func99.trans (congrArg some (by kernel_rfl))
  f276 := Tryz.func86.trans (congrArg some (by kernel_rfl))
  f277 := Tryz.func87.trans (congrArg some (by kernel_rfl))
  t0 := Tryz.underlying0
  a0 := Tryz.isAgg0
  z0 := Tryz.sizeOf0
  v0 := Tryz.zeroValue0
  t3 := Tryz.underlying3
  a3 := Tryz.isAgg3
  z3 := Tryz.sizeOf3
  v3 := Tryz.zeroValue3
  t4 := Tryz.underlying4
  a4 := Tryz.isAgg4
  z4 := Tryz.sizeOf4
  v4 := Tryz.zeroValue4
  t5 := Tryz.underlying5
  a5 := Tryz.isAgg5
  z5 := Tryz.sizeOf5
  v5 := Tryz.zeroValue5
  t9 := Tryz.underlying9
  a9 := Tryz.isAgg9
  z9 := Tryz.sizeOf9
  v9 := Tryz.zeroValue9
  t20 := Tryz.underlying20
  a20 := Tryz.isAgg20
  z20 := Tryz.sizeOf20
  v20 := Tryz.zeroValue20
  t37 := Tryz.underlying47
  a37 := Tryz.isAgg47
  z37 := Tryz.sizeOf47
  v37 := Tryz.zeroValue47
  t46 := Tryz.underlying113
  a46 := Tryz.isAgg113
  z46 := Tryz.sizeOf113
  v46 := Tryz.zeroValue113
  t51 := Tryz.underlying121
  a51 := Tryz.isAgg121
  z51 := Tryz.sizeOf121
  v51 := Tryz.zeroValue121
  t53 := Tryz.underlying100
  a53 := Tryz.isAgg100
  z53 := Tryz.sizeOf100
  v53 := Tryz.zeroValue100
  t70 := Tryz.underlying81
  a70 := Tryz.isAgg81
  z70 := Tryz.sizeOf81
  v70 := Tryz.zeroValue81
  t72 := Tryz.underlying83
  a72 := Tryz.isAgg83
  z72 := Tryz.sizeOf83
  v72 := Tryz.zeroValue83
  t75 := Tryz.underlying86
  a75 := Tryz.isAgg86
  z75 := Tryz.sizeOf86
  v75 := Tryz.zeroValue86
  t76 := Tryz.underlying87
  a76 := Tryz.isAgg87
  z76 := Tryz.sizeOf87
  v76 := Tryz.zeroValue87
  t109 := Tryz.underlying114
  a109 := Tryz.isAgg114
  z109 := Tryz.sizeOf114
  v109 := Tryz.zeroValue114
  t127 := Tryz.underlying95
  a127 := Tryz.isAgg95
  z127 := Tryz.sizeOf95
  v127 := Tryz.zeroValue95
  t146 := Tryz.underlying125
  a146 := Tryz.isAgg125
  z146 := Tryz.sizeOf125
  v146 := Tryz.zeroValue125
  t148 := Tryz.underlying127
  a148 := Tryz.isAgg127
  z148 := Tryz.sizeOf127
  v148 := Tryz.zeroValue127
  t164 := Tryz.underlying110
  a164 := Tryz.isAgg110
  z164 := Tryz.sizeOf110
  v164 := Tryz.zeroValue110 }
end Go.Proofs.YtodbjnngkonklaaGreatDoor

namespace Go.Proofs.YtodbjnngkonklaaGreatDoor
open Go.Shelf Go.Lib Go.Sort
open Go.RowKit
set_option linter.unusedVariables false
set_option linter.unusedSimpArgs false
set_option maxRecDepth 100000
attribute [local simp] List.getElem?_cons_zero
attribute [local irreducible] awCond awCall awLoop awDraw ow retQ retC resQ Keeps
theorem below_sim {M : Mem} {μ : Map} {w w' : World} {b : Nat} (hS : Sim M μ w) (h : Go.RowKit.Below w.heap.size w w') : Sim M μ w' ∧ Step b M μ w M μ w' :=
  ⟨hS.grow h.block h.size, fun i s h => ⟨s, h, Slot.evolves_refl _ _⟩, fun _ _ => ⟨rfl, rfl⟩, h.os, h.tape, h.output, h.size, fun i hi _ _ => h.block i hi, fun i r' es hi h => absurd (List.getElem?_eq_some_iff.1 h).1 (by omega), fun i r' hi h => absurd (List.getElem?_eq_some_iff.1 h).1 (by omega)⟩
def strR : RecV ByteArray 1 := ⟨fun s => [.string s], fun _ => rfl⟩
def repB (s : ByteArray) (c : Nat) : ByteArray := ⟨(Lib.repeatL s.data.toList c).toArray⟩
def joinB (l : List ByteArray) (sep : ByteArray) : ByteArray := ⟨(Lib.join (l.map (·.data.toList)) sep.data.toList).toArray⟩
theorem extraJ : Builder.Extra Tryz.prog joinS_ren where
  sizeBuilder := by kernel_rfl
  liesBuilder := by kernel_rfl
  t5 := Tryz.underlying5
  a5 := Tryz.isAgg5
  z5 := Tryz.sizeOf5
  v5 := Tryz.zeroValue5
  infoByte := by kernel_rfl
  cellsByte := by kernel_rfl
  sizeByte := by kernel_rfl
  neB5 := by decide
theorem extraR : Builder.Extra Tryz.prog repS_ren where
  sizeBuilder := by kernel_rfl
  liesBuilder := by kernel_rfl
  t5 := Tryz.underlying5
  a5 := Tryz.isAgg5
  z5 := Tryz.sizeOf5
  v5 := Tryz.zeroValue5
  infoByte := by kernel_rfl
  cellsByte := by kernel_rfl
  sizeByte := by kernel_rfl
  neB5 := by decide
theorem Repeat_a {M : Mem} {b : Nat} (s : ByteArray) (c : Nat) (hc : c ≤ 1000) (hs : s.size ≤ 1000) : Det Tryz.prog b 81 [.string s, iv c] M (.string (repB s c)) M := by
  refine ⟨⟨_, Tryz.func81, rfl, rfl⟩, fun μ w cs hl hS => ?_⟩
  obtain rfl : cs = [.string s, iv c] := by
    match cs, hl with
    | [u, v], h =>
      have a1 := (h.2 0 _ _ rfl rfl).of_plain (show plainV (.string s) = true from rfl)
      have a2 := (h.2 1 _ _ rfl rfl).of_plain (show plainV (iv c) = true from rfl)
      rw [a1, a2]
    | [], h => have := h.1; simp at this
    | [_], h => have := h.1; simp at this
    | _ :: _ :: _ :: _, h => have := h.1; simp at this
  have hm : s.size * c ≤ 1000 * 1000 := Nat.mul_le_mul hs hc
  refine Calls.mono (Any.strings_Repeat repS extraR s c w (by omega) (by omega)) ?_
  rintro e w' ⟨rfl, hb⟩
  obtain ⟨g1, g2⟩ := below_sim (b := b) hS hb
  exact ⟨_, μ, rfl, .plain rfl, g1, g2⟩
theorem Join_a {M : Mem} {b B : Nat} {v : Value} {l : List ByteArray} (sep : ByteArray) (hA : Acc strR 9 B M v l) (hn : l.length ≤ 100000) (hj : (Lib.join (l.map (·.data.toList)) sep.data.toList).length ≤ 140737488355328) : Det Tryz.prog b 33 [v, .string sep] M (.string (joinB l sep)) M := by
  refine ⟨⟨_, Tryz.func33, rfl, rfl⟩, fun μ w cs hl hS => ?_⟩
  obtain ⟨A, n, c, rfl, hln, hA⟩ := hA
  obtain ⟨u, rfl, hu⟩ : ∃ u, cs = [u, .string sep] ∧ VRel M μ (.slice A n c) u := by
    match cs, hl with
    | [u, v], h =>
      have a2 := (h.2 1 _ _ rfl rfl).of_plain (show plainV (.string sep) = true from rfl)
      exact ⟨u, by rw [a2], h.2 0 _ _ rfl rfl⟩
    | [], h => have := h.1; simp at this
    | [_], h => have := h.1; simp at this
    | _ :: _ :: _ :: _, h => have := h.1; simp at this
  rcases hA with ⟨rfl, rfl, rfl⟩ | ⟨id, t, rfl, hid, hr⟩
  · obtain rfl := List.eq_nil_of_length_eq_zero hln
    have e := hu.of_plain (show plainV (.slice none 0 0) = true from rfl)
    rw [e]
    refine Calls.mono (Any.strings_Join_none joinS extraJ none 0 sep w) ?_
    rintro e w' ⟨rfl, rfl⟩
    exact ⟨_, μ, rfl, .plain rfl, hS, .refl⟩
  · subst hln
    cases hu with
    | plain hp => simp [plainV] at hp
    | @sl _ _ _ _ c2 a s h1 h2 h3 h4 h5 =>
      rw [hr] at h1
      injection h1 with h1
      obtain ⟨h6, h7⟩ := h5 _ h1.symm
      obtain ⟨g1, g2, g3⟩ := hS.row id _ hr
      obtain ⟨bk, cur, fr, e1, e2, e3, e4, e5, e6⟩ := g3 rfl
      have ha : a = ⟨bk, 0, none⟩ := by
        rcases h6 with h6 | h6
        · exact absurd rfl h6.2
        · rw [h6, e1]; rfl
      rw [ha]
      refine Calls.mono (Any.strings_Join joinS extraJ bk 0 c2 l sep w (fun j x hx => ?_) (by rw [e1] at g1; exact g1) (by omega) h3 hj) ?_
      · have hc : (cellsL strR l)[j]? = some (.string x) := by
          have hj := (List.getElem?_eq_some_iff.1 hx).1
          have := cellsL_get strR (l := l) (i := j) (j := 0) hj (by omega)
          rw [Nat.mul_one, Nat.add_zero] at this
          rw [this]
          have : el l j = x := by simp [el, hx]
          rw [this]
          rfl
        obtain ⟨d, q1, q2⟩ := g2 j _ hc
        have := q2.of_plain (show plainV (.string x) = true from rfl)
        rw [this, e1] at q1
        simpa [Addr.add_lit] using q1
      · rintro e w' ⟨rfl, hb⟩
        obtain ⟨g1, g2⟩ := below_sim (b := b) hS hb
        exact ⟨_, μ, rfl, .plain rfl, g1, g2⟩
end Go.Proofs.YtodbjnngkonklaaGreatDoor

namespace Go.Proofs.YtodbjnngkonklaaGreatDoor
open Go.RowKit
set_option linter.unusedVariables false
set_option linter.unusedSimpArgs false
set_option maxRecDepth 100000
attribute [local simp] List.getElem?_cons_zero
attribute [local irreducible] awCond awCall awLoop awDraw ow retQ retC resQ Keeps
theorem within_a {M : Mem} (n lo hi : Int) : Det Tryz.prog M.length 45 [iv n, iv lo, iv hi] M (.bool (inB n lo hi)) M := by
  first | (refine det_fn Tryz.func45 rfl Tryz.ntmps45 Tryz.results45 rfl rfl rfl (by simp) ?_) | (refine det_fnC Tryz.func45 rfl Tryz.ntmps45 Tryz.results45 rfl rfl (by simp) ?_)
  simp
  repeat' (first | (refine guardV_split ?_ ?_ <;> intro _) | (simp [*]))
  all_goals (simp_all [inB, Keeps.refl] <;> omega)
theorem l00In_a {M : Mem} (n lo hi : Int) : Det Tryz.prog M.length 39 [iv n, iv lo, iv hi] M (.bool (inB n lo hi)) M := by
  first | (refine det_fn Tryz.func39 rfl Tryz.ntmps39 Tryz.results39 rfl rfl rfl (by simp) ?_) | (refine det_fnC Tryz.func39 rfl Tryz.ntmps39 Tryz.results39 rfl rfl (by simp) ?_)
  simp
  repeat' (first | (refine guardV_split ?_ ?_ <;> intro _) | (simp [*]))
  all_goals (simp_all [inB, Keeps.refl] <;> omega)
theorem isKey_a {M : Mem} (n : Int) : Det Tryz.prog M.length 76 [iv n] M (.bool (inB n 0 127)) M := by
  first | (refine det_fn Tryz.func76 rfl Tryz.ntmps76 Tryz.results76 rfl rfl rfl (by simp) ?_) | (refine det_fnC Tryz.func76 rfl Tryz.ntmps76 Tryz.results76 rfl rfl (by simp) ?_)
  simp
  refine awCall_det' (within_a _ _ _) (by simp) ?_
  simp [Keeps.refl]
end Go.Proofs.YtodbjnngkonklaaGreatDoor
