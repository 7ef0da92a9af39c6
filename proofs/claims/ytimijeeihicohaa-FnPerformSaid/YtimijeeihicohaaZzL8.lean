/- Parts of the proof, together: Lists that grow by append. The source of choices: a number is drawn. The source of choices, beside lists that grow. A choice among numbers. Boxes beside a source and lists that grow. Words for what draws: growth beside a source, built lists of numbers. Words for what draws: choices among built numbers, rows read and set. Nested lists and records in memory. No conditions. -/
import Derived.Test.YtimijeeihicohaaZzL7
namespace Go.Proofs.Ytimijeeihicohaa
open Go.RowKit
set_option linter.unusedVariables false
set_option linter.unusedSimpArgs false
set_option maxRecDepth 100000
attribute [local simp] List.getElem?_cons_zero
attribute [local irreducible] awCond awCall awLoop awDraw ow retQ retC resQ Keeps
section
variable {α : Type} {k : Nat}
/-- The value v is a list in a row of one's own, from id B on, that append can grow. -/
def Acc (R : RecV α k) (e : TypeId) (B : Nat) (M : Mem) (v : Value) (l : List α) : Prop :=
  ∃ A n c, v = .slice A n c ∧ l.length = n ∧ ((A = none ∧ n = 0 ∧ c = 0) ∨ ∃ id t, A = some ⟨id, 0, none⟩ ∧ B ≤ id ∧ M[id]? = some (.live ⟨cellsL R l, true, t, e, k⟩))
/-- Below B nothing has turned. -/
def Same (B : Nat) (M M' : Mem) : Prop := M.length ≤ M'.length ∧ ∀ (i : Nat) s, i < B → M[i]? = some s → M'[i]? = some s
theorem Same.keeps {B : Nat} {M0 M M' : Mem} (h : Same B M M') (hk : Keeps M0 M) (hb : M0.length ≤ B) : Keeps M0 M' := by
  unfold Keeps
  exact fun i s hs => h.2 i s (by have := (List.getElem?_eq_some_iff.1 hs).1; omega) (hk.get hs)
theorem Acc.keeps {R : RecV α k} {e : TypeId} {B : Nat} {M M' : Mem} {v : Value} {l : List α} (h : Acc R e B M v l) (hk : Keeps M M') : Acc R e B M' v l := by
  obtain ⟨A, n, c, h1, h2, h3⟩ := h
  refine ⟨A, n, c, h1, h2, ?_⟩
  rcases h3 with h3 | ⟨id, t, h4, h5, h6⟩
  · exact .inl h3
  · exact .inr ⟨id, t, h4, h5, hk.get h6⟩
theorem Acc.src {P : Program} {R : RecV α k} {e tx : TypeId} {B : Nat} {M : Mem} {v : Value} {l : List α} (h : Acc R e B M v l) (ht : ∃ e', P.underlying tx = some (.slice e')) : srcOf P M k tx v = some (l.length, cellsL R l) := by
  obtain ⟨e', ht⟩ := ht
  obtain ⟨A, n, c, rfl, hl, hA⟩ := h
  subst hl
  rcases hA with ⟨rfl, h0, rfl⟩ | ⟨id, t, rfl, hid, hr⟩
  · obtain rfl := List.eq_nil_of_length_eq_zero h0
    simp [srcOf, ht, cellsL]
  · have e : cellsAt M id 0 (l.length * k) = some (cellsL R l) := by
      unfold cellsAt
      rw [hr]
      simp only
      rw [if_pos (by rw [cellsL_len]; omega), List.drop_zero, List.take_of_length_le (by rw [cellsL_len]; omega)]
    rcases l with _ | ⟨x, l⟩
    · simp [srcOf, ht, cellsL]
    · simp at e
      simp [srcOf, ht, e]
theorem Sl.src {P : Program} {R : RecV α k} {tx : TypeId} {M : Mem} {ad : Addr} {n c : Nat} {l : List α} (h : Sl R M (some ad) n l) (hk : 0 < k) (ht : ∃ e', P.underlying tx = some (.slice e')) : srcOf P M k tx (.slice (some ad) n c) = some (l.length, cellsL R l) := by
  obtain ⟨e', ht⟩ := ht
  have hl := h.1
  by_cases h0 : n = 0
  · subst h0
    obtain rfl := List.eq_nil_of_length_eq_zero hl
    simp [srcOf, ht, cellsL]
  · obtain ⟨id, off, e, he, hc⟩ := h.2 (by omega)
    injection e with e
    subst e
    have e := cellsAt_of hc (by rw [cellsL_len, hl]) (Nat.mul_pos (by omega) hk)
    simp [srcOf, ht, e, h0, hl]
theorem Acc.set_ne {R : RecV α k} {e : TypeId} {B : Nat} {M : Mem} {v : Value} {l : List α} {i : Nat} {s : Slot} (h : Acc R e B M v l) (hi : i < B) : Acc R e B (M.set i s) v l := by
  obtain ⟨A, n, c, h1, h2, h3⟩ := h
  refine ⟨A, n, c, h1, h2, ?_⟩
  rcases h3 with h3 | ⟨id, t, h4, h5, h6⟩
  · exact .inl h3
  · exact .inr ⟨id, t, h4, h5, by rw [List.getElem?_set_ne (by omega)]; exact h6⟩
theorem Acc.low {R : RecV α k} {e : TypeId} {B B' : Nat} {M : Mem} {v : Value} {l : List α} (h : Acc R e B M v l) (hb : B' ≤ B) : Acc R e B' M v l := by
  obtain ⟨A, n, c, h1, h2, h3⟩ := h
  refine ⟨A, n, c, h1, h2, ?_⟩
  rcases h3 with h3 | ⟨id, t, h4, h5, h6⟩
  · exact .inl h3
  · exact .inr ⟨id, t, h4, by omega, h6⟩
theorem Acc.sl {R : RecV α k} {e : TypeId} {B : Nat} {M : Mem} {v : Value} {l : List α} (h : Acc R e B M v l) : ∃ A n c, v = .slice A n c ∧ l.length = n ∧ Sl R M A n l ∧ oneV v = true := by
  obtain ⟨A, n, c, rfl, hl, hA⟩ := h
  refine ⟨A, n, c, rfl, hl, ?_, rfl⟩
  rcases hA with ⟨rfl, rfl, rfl⟩ | ⟨id, t, rfl, hid, hr⟩
  · exact ⟨hl, fun h => by omega⟩
  · exact ⟨hl, fun _ => ⟨id, 0, rfl, by simp [rowEsz, hr], fun j x hx => by simp [cellAt, hr, hx]⟩⟩
theorem Acc.nil {R : RecV α k} {e : TypeId} {B : Nat} {M : Mem} : Acc R e B M (.slice none 0 0) [] := ⟨none, 0, 0, rfl, rfl, .inl ⟨rfl, rfl, rfl⟩⟩
theorem Acc.append {P : Program} {R : RecV α k} {e t tx : TypeId} {B b by_ : Nat} {S : St} {v x : Value} {l : List α} {a : α} {K : Value → Mem → Prop} (h : Acc R e B S.M v l) (hb : b ≤ B) (hB : B ≤ S.M.length) (hk : 0 < k) (hq : qSlice P t = some (e, k, by_))
    (hz : (P.info? e).any (fun i => i.zero.any fun z => z.cells.size == k) = true) (hs : srcOf P S.M k tx x = some (1, R.row a)) (h1 : (R.row a).all (fun u => u.oneCell') = true) (hn : (l.length + 1) * by_ ≤ 140737488355328) (hm : l.length + 1 ≤ maxLen)
    (hK : ∀ v' M', Acc R e B M' v' (l ++ [a]) → Same B S.M M' → K v' M') : appendK P b S K t tx v x := by
  obtain ⟨A, n, c, rfl, hl, hA⟩ := h
  subst hl
  unfold appendK
  rw [hq]
  simp only [ow_some]
  rw [hs]
  simp only [ow_some]
  refine ⟨hz, h1, ?_⟩
  rcases hA with ⟨rfl, h0, rfl⟩ | ⟨id, tt, rfl, hid, hr⟩
  · obtain rfl := List.eq_nil_of_length_eq_zero h0
    refine ⟨⟨rfl, rfl⟩, by simpa using hn, by simpa using hm, fun h => by omega, fun _ => hK _ _ ⟨_, _, _, rfl, rfl, .inr ⟨S.M.length, false, rfl, hB, ?_⟩⟩ ⟨by simp, fun i s _ hs => ?_⟩⟩
    · rw [getElem?_snoc_eq]; simp [cellsL]
    · rw [List.getElem?_append_left (List.getElem?_eq_some_iff.1 hs).1]; exact hs
  · have hlt := (List.getElem?_eq_some_iff.1 hr).1
    simp only [hr]
    refine ⟨⟨trivial, by rw [cellsL_len], trivial, trivial⟩, hn, hm, fun h => by omega, fun _ => ?_⟩
    split
    · refine hK _ _ ⟨_, _, _, rfl, by simp, .inr ⟨S.M.length, false, rfl, hB, ?_⟩⟩ ⟨by simp, fun i s _ hs => ?_⟩
      · rw [getElem?_snoc_eq, cellsL_snoc]
      · rw [List.getElem?_append_left (List.getElem?_eq_some_iff.1 hs).1]; exact hs
    · refine ⟨by omega, hK _ _ ⟨_, _, _, rfl, by simp, .inr ⟨S.M.length, false, rfl, hB, ?_⟩⟩ ⟨by simp, fun i s hi hs => ?_⟩⟩
      · rw [List.getElem?_append_right (by simp), List.length_set, Nat.sub_self, cellsL_snoc]; rfl
      · rw [List.getElem?_append_left (by simpa using (List.getElem?_eq_some_iff.1 hs).1), List.getElem?_set_ne (by omega)]; exact hs
theorem Same.refl (B : Nat) (M : Mem) : Same B M M := ⟨Nat.le_refl _, fun _ _ _ h => h⟩
/-- The value does not lie in row i. -/
def Apart (v : Value) (i : Nat) : Prop := ∀ (A : Option Addr) (n c : Nat) (a : Addr), v = .slice A n c → A = some a → i ≠ a.block
theorem apart_new {M : Mem} {i : Nat} {s : Slot} {n c : Nat} (h : M[i]? = some s) : Apart (.slice (some ⟨M.length, 0, none⟩) n c) i := by
  intro A n' c' a e ea
  injection e with e1
  subst e1
  injection ea with ea
  subst ea
  have := (List.getElem?_eq_some_iff.1 h).1
  show i ≠ M.length
  omega
theorem Acc.apart {R : RecV α k} {e : TypeId} {B : Nat} {M : Mem} {v : Value} {l : List α} (h : Acc R e B M v l) {i : Nat} (hi : M.length ≤ i) : Apart v i := by
  obtain ⟨A, n, c, rfl, hl, hA⟩ := h
  intro A' n' c' a e ea
  injection e with e1
  subst e1
  rcases hA with ⟨rfl, _⟩ | ⟨id, t, rfl, hid, hr⟩
  · cases ea
  · injection ea with ea
    subst ea
    have := (List.getElem?_eq_some_iff.1 hr).1
    show i ≠ id
    omega
theorem Acc.extend2 {P : Program} {R : RecV α k} {e t tx : TypeId} {B b by_ : Nat} {S : St} {v x : Value} {l ls : List α} {K : Value → Mem → Prop} (h : Acc R e B S.M v l) (hb : b ≤ B) (hB : B ≤ S.M.length) (hq : qSlice P t = some (e, k, by_))
    (hz : (P.info? e).any (fun i => i.zero.any fun z => z.cells.size == k) = true) (hs : srcOf P S.M k tx x = some (ls.length, cellsL R ls)) (h1 : (cellsL R ls).all (fun u => u.oneCell') = true) (hn : (l.length + ls.length) * by_ ≤ 140737488355328) (hm : l.length + ls.length ≤ maxLen)
    (hK : ∀ v' M', Acc R e B M' v' (l ++ ls) → Same B S.M M' → (∀ (i : Nat) s, Apart v i → S.M[i]? = some s → M'[i]? = some s ∧ Apart v' i) → K v' M') : appendK P b S K t tx v x := by
  obtain ⟨A, n, c, rfl, hl, hA⟩ := h
  subst hl
  unfold appendK
  rw [hq]
  simp only [ow_some]
  rw [hs]
  simp only [ow_some]
  refine ⟨hz, h1, ?_⟩
  rcases hA with ⟨rfl, h0, rfl⟩ | ⟨id, tt, rfl, hid, hr⟩
  · obtain rfl := List.eq_nil_of_length_eq_zero h0
    refine ⟨⟨rfl, rfl⟩, by simpa using hn, by simpa using hm, fun h => ?_, fun _ => hK _ _ ⟨_, _, _, rfl, by simp, .inr ⟨S.M.length, false, rfl, hB, ?_⟩⟩ ⟨by simp, fun i s _ hs => ?_⟩ fun i s ha hs => ⟨?_, apart_new hs⟩⟩
    · obtain rfl := List.eq_nil_of_length_eq_zero h
      exact hK _ _ .nil (.refl _ _) fun i s ha hs => ⟨hs, ha⟩
    · rw [getElem?_snoc_eq]; simp
    · rw [List.getElem?_append_left (List.getElem?_eq_some_iff.1 hs).1]; exact hs
    · rw [List.getElem?_append_left (List.getElem?_eq_some_iff.1 hs).1]; exact hs
  · have hlt := (List.getElem?_eq_some_iff.1 hr).1
    simp only [hr]
    refine ⟨⟨trivial, by rw [cellsL_len], trivial, trivial⟩, hn, hm, fun h => ?_, fun _ => ?_⟩
    · obtain rfl := List.eq_nil_of_length_eq_zero h
      exact hK _ _ ⟨_, _, _, rfl, by simp, .inr ⟨id, tt, rfl, hid, by simpa using hr⟩⟩ (.refl _ _) fun i s ha hs => ⟨hs, ha⟩
    split
    · refine hK _ _ ⟨_, _, _, rfl, by simp, .inr ⟨S.M.length, false, rfl, hB, ?_⟩⟩ ⟨by simp, fun i s _ hs => ?_⟩ fun i s ha hs => ⟨?_, apart_new hs⟩
      · rw [getElem?_snoc_eq, cellsL_append]
      · rw [List.getElem?_append_left (List.getElem?_eq_some_iff.1 hs).1]; exact hs
      · rw [List.getElem?_append_left (List.getElem?_eq_some_iff.1 hs).1]; exact hs
    · refine ⟨by omega, hK _ _ ⟨_, _, _, rfl, by simp, .inr ⟨S.M.length, false, rfl, hB, ?_⟩⟩ ⟨by simp, fun i s hi hs => ?_⟩ fun i s ha hs => ⟨?_, apart_new hs⟩⟩
      · rw [List.getElem?_append_right (by simp), List.length_set, Nat.sub_self, cellsL_append]; rfl
      · rw [List.getElem?_append_left (by simpa using (List.getElem?_eq_some_iff.1 hs).1), List.getElem?_set_ne (by omega)]; exact hs
      · have := ha _ _ _ _ rfl rfl
        rw [List.getElem?_append_left (by simpa using (List.getElem?_eq_some_iff.1 hs).1), List.getElem?_set_ne (Ne.symm (by simpa using this))]; exact hs
theorem Acc.extend {P : Program} {R : RecV α k} {e t tx : TypeId} {B b by_ : Nat} {S : St} {v x : Value} {l ls : List α} {K : Value → Mem → Prop} (h : Acc R e B S.M v l) (hb : b ≤ B) (hB : B ≤ S.M.length) (hq : qSlice P t = some (e, k, by_))
    (hz : (P.info? e).any (fun i => i.zero.any fun z => z.cells.size == k) = true) (hs : srcOf P S.M k tx x = some (ls.length, cellsL R ls)) (h1 : (cellsL R ls).all (fun u => u.oneCell') = true) (hn : (l.length + ls.length) * by_ ≤ 140737488355328) (hm : l.length + ls.length ≤ maxLen)
    (hK : ∀ v' M', Acc R e B M' v' (l ++ ls) → Same B S.M M' → K v' M') : appendK P b S K t tx v x := h.extend2 hb hB hq hz hs h1 hn hm fun v' M' a b _ => hK v' M' a b
theorem Acc.append2 {P : Program} {R : RecV α k} {e t tx : TypeId} {B b by_ : Nat} {S : St} {v x : Value} {l : List α} {a : α} {K : Value → Mem → Prop} (h : Acc R e B S.M v l) (hb : b ≤ B) (hB : B ≤ S.M.length) (_hk : 0 < k) (hq : qSlice P t = some (e, k, by_))
    (hz : (P.info? e).any (fun i => i.zero.any fun z => z.cells.size == k) = true) (hs : srcOf P S.M k tx x = some (1, R.row a)) (h1 : (R.row a).all (fun u => u.oneCell') = true) (hn : (l.length + 1) * by_ ≤ 140737488355328) (hm : l.length + 1 ≤ maxLen)
    (hK : ∀ v' M', Acc R e B M' v' (l ++ [a]) → Same B S.M M' → (∀ (i : Nat) s, Apart v i → S.M[i]? = some s → M'[i]? = some s ∧ Apart v' i) → K v' M') : appendK P b S K t tx v x :=
  h.extend2 (ls := [a]) hb hB hq hz (by rw [hs]; simp [cellsL]) (by simpa [cellsL] using h1) (by simpa using hn) (by simpa using hm) hK
theorem cloneX {P : Program} {R : RecV α k} {e t : TypeId} {B b by_ : Nat} {S : St} {ad : Addr} {n c : Nat} {l : List α} {K : Value → Mem → Prop} (h : Sl R S.M (some ad) n l) (hk : 0 < k) (hA : Acc R e B S.M (.slice (some ⟨B, 0, none⟩) 0 0) []) (hb : b ≤ B) (hB : B ≤ S.M.length) (hq : qSlice P t = some (e, k, by_)) (ht : ∃ e', P.underlying t = some (.slice e'))
    (hz : (P.info? e).any (fun i => i.zero.any fun z => z.cells.size == k) = true) (h1 : (cellsL R l).all (fun u => u.oneCell') = true) (hn : n * by_ ≤ 140737488355328) (hm : n ≤ maxLen) (hK : ∀ v' M', Acc R e B M' v' l → Same B S.M M' → K v' M') : appendK P b S K t t (.slice (some ⟨B, 0, none⟩) 0 0) (.slice (some ad) n c) := by
  have hl := h.1
  refine hA.extend (ls := l) hb hB hq hz (h.src hk ht) h1 (by simpa [hl] using hn) (by simpa [hl] using hm) ?_
  intro v' M' a b
  exact hK v' M' (by simpa using a) b
theorem Acc.fresh {R : RecV α k} {e : TypeId} {M M' : Mem} {v : Value} {l : List α} (h : Acc R e M.length M' v l) (hn : l.length ≤ 1099511627776) (hk : Keeps M M') : Fresh R M v M' l := by
  obtain ⟨A, n, c, rfl, hl, hA⟩ := h
  refine ⟨A, n, c, rfl, by omega, ?_⟩
  rcases hA with ⟨rfl, rfl, rfl⟩ | ⟨id, t, rfl, hid, hr⟩
  · exact ⟨⟨hl, fun h => by omega⟩, by simp, fun h => by omega, hk⟩
  · exact ⟨⟨hl, fun _ => ⟨id, 0, rfl, by simp [rowEsz, hr], fun j x hx => by simp [cellAt, hr, hx]⟩⟩, fun a e => by injection e with e; subst e; exact hid, fun _ => ⟨_, _, _, rfl, hr, rfl⟩, hk⟩
theorem OwL.nil {R : RecV α k} {lo hi : Nat} {M : Mem} : OwL R lo hi M (.slice none 0 0) [] := by
  refine ⟨none, 0, 0, rfl, by omega, ⟨rfl, fun h => by omega⟩, ?_, ?_⟩
  · intro a h; cases h
  · intro h; omega
end
end Go.Proofs.Ytimijeeihicohaa

namespace Go.Proofs.Ytimijeeihicohaa
open Go.RowKit
set_option linter.unusedVariables false
set_option linter.unusedSimpArgs false
set_option maxRecDepth 100000
attribute [local simp] List.getElem?_cons_zero
attribute [local irreducible] awCond awCall awLoop awDraw ow retQ retC resQ Keeps
def codeR : RecV Int 1 := ⟨fun n => [.int .u8 n], fun _ => rfl⟩
/-- The source in row g, behind k draws; cs: the bytes it reads. -/
def SrcAt (g : Nat) (M : Mem) (A : Option Addr) (n c : Nat) (cs : List Int) (k : Nat) : Prop :=
  ∃ seed : Int, M[g]? = some (.live ⟨[.slice A n c, iv k, .int .u64 seed], true, true, 112, 3⟩) ∧ Sl codeR M A n cs ∧ (∀ a, A = some a → 0 < n → a.block ≠ g) ∧ ∀ x, x ∈ cs → 0 ≤ x ∧ x ≤ 255
def UpdS (g : Nat) (M M' : Mem) : Prop := M'.length = M.length ∧ ∀ (i : Nat) s, i ≠ g → M[i]? = some s → M'[i]? = some s
theorem put_row {b : Nat} {M : Mem} {id p : Nat} {v : Value} {cs : List Value} {t : Bool} {e : TypeId} {z : Nat} (hr : M[id]? = some (.live ⟨cs, true, t, e, z⟩)) (hb : b ≤ id) (hp : p < cs.length) (h1 : oneV v = true) :
    putCells b M id p [v] = some (M.set id (.live ⟨cs.set p v, true, t, e, z⟩)) := by
  have := put_set (b := b) (M := M) (id := id) (p := p) (v := v) (cs := cs) (t := t) (e := e) (z := z) (List.getElem?_eq_some_iff.1 hr).1 hb hp h1
  rw [set_self hr] at this
  exact this
theorem cell_row {M : Mem} {id off : Nat} {r : Row} (h : id < M.length) : cellAt (M.set id (.live r)) id off = r.cells[off]? := by
  simp [cellAt, h]
theorem u8_in {x : Int} (h1 : 0 ≤ x) (h2 : x ≤ 255) : IntKind.u64.wrap x = x := by
  have e : (2 : Int) ^ IntKind.u64.bits = 18446744073709551616 := by decide
  have e2 : IntKind.u64.signed = false := rfl
  simp only [IntKind.wrap, e, e2]
  simp
  omega
theorem and_bd (a : Int) : 0 ≤ ((BitVec.ofInt IntKind.u64.bits a &&& BitVec.ofInt IntKind.u64.bits 255).toNat : Int) ∧ ((BitVec.ofInt IntKind.u64.bits a &&& BitVec.ofInt IntKind.u64.bits 255).toNat : Int) ≤ 255 := by
  have e : (BitVec.ofInt IntKind.u64.bits 255).toNat = 255 := by decide
  have := Nat.and_le_right (n := (BitVec.ofInt IntKind.u64.bits a).toNat) (m := (BitVec.ofInt IntKind.u64.bits 255).toNat)
  rw [BitVec.toNat_and]
  rw [e] at this ⊢
  omega
theorem shr40 (a : Int) : intV .shr .u64 a 40 = some (.int .u64 (a.fdiv (2 ^ 40))) := by rfl
def mask8 (a : Int) : Int := IntKind.u64.wrap ((BitVec.ofInt IntKind.u64.bits a &&& BitVec.ofInt IntKind.u64.bits 255).toNat : Int)
theorem mask8_bd (a : Int) : 0 ≤ mask8 a ∧ mask8 a ≤ 255 := by
  have h := and_bd a
  unfold mask8
  rw [u8_in h.1 h.2]
  exact h
theorem and255 (a : Int) : intV .and .u64 a 255 = some (.int .u64 (mask8 a)) := by rfl
theorem next_s {M : Mem} {b g k n c : Nat} {A : Option Addr} {cs : List Int} (h : SrcAt g M A n c cs k) (hb : b ≤ g) (hk : k ≤ 1099511627776) (hn : n ≤ 1099511627776) :
    Ctr Try.prog b 103 [.pointer (some ⟨g, 0, none⟩)] M fun r M' => (∃ x : Int, r = iv x ∧ 0 ≤ x ∧ x ≤ 255) ∧ SrcAt g M' A n c cs (k + 1) ∧ UpdS g M M' := by
  obtain ⟨seed, hr, hsl, hap, hcs⟩ := h
  have hgl := (List.getElem?_eq_some_iff.1 hr).1
  have a0 : cellAt M g 0 = some (.slice A n c) := by simp [cellAt, hr]
  have a1 : cellAt M g 1 = some (iv k) := by simp [cellAt, hr]
  have hput1 := put_row (b := b) (p := 1) (v := iv (k + 1)) hr hb (by simp) rfl
  obtain ⟨M1, hM1⟩ : ∃ M1 : Mem, M1 = M.set g (.live ⟨[.slice A n c, iv (k + 1), .int .u64 seed], true, true, 112, 3⟩) := ⟨_, rfl⟩
  have hput1' : putCells b M g 1 [iv (k + 1)] = some M1 := by rw [hput1, hM1]; rfl
  have hr1 : M1[g]? = some (.live ⟨[.slice A n c, iv (k + 1), .int .u64 seed], true, true, 112, 3⟩) := by rw [hM1, List.getElem?_set_self hgl]
  have hl1 : M1.length = M.length := by rw [hM1]; simp
  have hu1 : ∀ (i : Nat) x, i ≠ g → M[i]? = some x → M1[i]? = some x := fun i x hi hx => by rw [hM1, List.getElem?_set_ne (Ne.symm hi)]; exact hx
  clear hM1 hput1
  have a2 : cellAt M1 g 2 = some (.int .u64 seed) := by simp [cellAt, hr1]
  have hput2 := fun z : Int => put_row (b := b) (p := 2) (v := .int .u64 z) hr1 hb (by simp) rfl
  have C := fun (off : Nat) (cs : List Value) => cell_row (M := M1) (id := g) (off := off) (r := ⟨cs, true, true, 112, 3⟩) (by omega)
  have fin : ∀ (x z : Int), 0 ≤ x → x ≤ 255 → (0 ≤ x ∧ x ≤ 255) ∧ SrcAt g (M1.set g (.live ⟨[.slice A n c, iv (k + 1), .int .u64 z], true, true, 112, 3⟩)) A n c cs (k + 1) ∧ UpdS g M (M1.set g (.live ⟨[.slice A n c, iv (k + 1), .int .u64 z], true, true, 112, 3⟩)) := by
    intro x z h1 h2
    have hup : ∀ (i : Nat) y, i ≠ g → M[i]? = some y → (M1.set g (.live ⟨[.slice A n c, iv (k + 1), .int .u64 z], true, true, 112, 3⟩))[i]? = some y := fun i y hi hy => by rw [List.getElem?_set_ne (Ne.symm hi)]; exact hu1 i y hi hy
    refine ⟨⟨h1, h2⟩, ⟨z, by rw [List.getElem?_set_self (by omega)]; rfl, ⟨hsl.1, fun hp => ?_⟩, hap, hcs⟩, by simp [hl1], hup⟩
    obtain ⟨id, off, e, he, hc⟩ := hsl.2 hp
    have hne : id ≠ g := hap _ e hp
    have heq : ∀ y, M[id]? = some y → (M1.set g (.live ⟨[.slice A n c, iv (k + 1), .int .u64 z], true, true, 112, 3⟩))[id]? = some y := fun y hy => hup id y hne hy
    refine ⟨id, off, e, ?_, fun j y hy => ?_⟩
    · unfold rowEsz at he ⊢
      cases hm : M[id]? with
      | none => rw [hm] at he; cases he
      | some y => rw [heq y hm]; rw [hm] at he; exact he
    · have := hc j y hy
      unfold cellAt at this ⊢
      cases hm : M[id]? with
      | none => rw [hm] at this; cases this
      | some y => rw [heq y hm]; rw [hm] at this; exact this
  first | (refine ctr_fn Try.func103 rfl Try.ntmps103 Try.results103 rfl rfl (by simp) ?_) | (refine ctr_fnC Try.func103 rfl Try.ntmps103 Try.results103 rfl (by simp) ?_)
  simp
  refine awDraw_E 9 [[],[0],[1,0],[2,1,0],[],[4],[5,4],[6,5,4],[7,6,5,4],[3,2,1,0,8,7,6,5,4]] (by kernel_rfl) (by kernel_rfl) ?_
  simp [a0, a1]
  by_cases hkn : k < n
  · obtain ⟨id, off, rfl, he, hc⟩ := hsl.at_ hkn
    have hb0 : cellAt M id (off + k * 1) = some (.int .u8 (el cs k)) := hc 0 _ rfl
    simp only [Nat.mul_one] at hb0
    have hx := hcs _ (el_mem (l := cs) (i := k) (by have := hsl.1; omega))
    simp [hkn]
    refine awDraw_E 8 [[],[0],[1,0],[2,1,0],[],[4],[5,4],[6,5,4],[3,2,1,0,7,6,5,4],[8,3,2,1,0,7,6,5,4],[9,8,3,2,1,0,7,6,5,4],[10,9,8,3,2,1,0,7,6,5,4]] (by kernel_rfl) (by kernel_rfl) ?_
    have hw1 : (k : Int) + 1 ≤ n := by omega
    simp (disch := omega) [a0, a1, hkn, he, hb0, wrap_in, hput1', a2, hput2, C]
    refine awDraw_E 9 [[],[0],[1,0],[2,1,0],[],[4],[5,4],[6,5,4],[7,6,5,4],[3,2,1,0,8,7,6,5,4]] (by kernel_rfl) (by kernel_rfl) ?_
    simp (disch := omega) [C, wrap_in, hw1]
    exact fin _ _ hx.1 hx.2
  · simp (disch := omega) [hkn, a1, hput1', a2, hput2, wrap_in, C]
    refine awDraw_E 9 [[],[0],[1,0],[2,1,0],[],[4],[5,4],[6,5,4],[7,6,5,4],[3,2,1,0,8,7,6,5,4]] (by kernel_rfl) (by kernel_rfl) ?_
    have hw1 : ¬ (k : Int) + 1 ≤ n := by omega
    simp (disch := omega) [C, wrap_in, hw1]
    generalize IntKind.u64.wrap (IntKind.u64.wrap (IntKind.u64.wrap (seed * 6364136223846793005) + IntKind.u64.wrap 0) + 1442695040888963407) = Z
    have hx := mask8_bd (Z.fdiv (2 ^ 40))
    rw [shr40]
    generalize Z.fdiv (2 ^ 40) = Y at hx ⊢
    simp (disch := omega) [and255, wrap_in]
    exact fin _ _ hx.1 hx.2
theorem pick_s {M : Mem} {b g k n c : Nat} {A : Option Addr} {cs : List Int} (m : Int) (h : SrcAt g M A n c cs k) (hb : b ≤ g) (hk : k + 2 ≤ 1099511627776) (hn : n ≤ 1099511627776) (hm : m ≤ 1099511627776) :
    Ctr Try.prog b 74 [.pointer (some ⟨g, 0, none⟩), iv m] M fun r M' => ∃ (x : Int) (k' : Nat), r = iv x ∧ 0 ≤ x ∧ (x < m ∨ (m ≤ 1 ∧ x = 0)) ∧ k' ≤ k + 2 ∧ SrcAt g M' A n c cs k' ∧ UpdS g M M' := by
  first | (refine ctr_fn Try.func74 rfl Try.ntmps74 Try.results74 rfl rfl (by simp) ?_) | (refine ctr_fnC Try.func74 rfl Try.ntmps74 Try.results74 rfl (by simp) ?_)
  simp
  by_cases h1 : m ≤ 1
  · simp [h1]
    exact ⟨k, by omega, h, rfl, fun i s _ hs => hs⟩
  · simp [h1]
    refine awCall_ctr (next_s h hb (by omega) hn) ?_
    rintro r M1 ⟨⟨x, rfl, x0, x1⟩, h2, u1⟩
    have hmod : ∀ y : Int, 0 ≤ y → y.tmod m = y % m ∧ 0 ≤ y % m ∧ y % m < m := fun y hy => ⟨Int.tmod_eq_emod_of_nonneg hy, Int.emod_nonneg _ (by omega), Int.emod_lt_of_pos _ (by omega)⟩
    have hm0 : ¬ m = 0 := by omega
    by_cases h3 : 200 < m
    · simp (disch := omega) [h3, wrap_in]
      refine awCall_ctr (next_s h2 hb (by omega) hn) ?_
      rintro r M2 ⟨⟨y, rfl, y0, y1⟩, h4, u2⟩
      obtain ⟨e1, e2, e3⟩ := hmod (x * 256 + y) (by omega)
      simp (disch := omega) [wrap_in, hm0, e1]
      exact ⟨e2, .inl e3, k + 1 + 1, by omega, h4, u2.1.trans u1.1, fun i s hi hs => u2.2 i s hi (u1.2 i s hi hs)⟩
    · obtain ⟨e1, e2, e3⟩ := hmod x x0
      simp (disch := omega) [h3, wrap_in, hm0, e1]
      exact ⟨e2, .inl e3, k + 1, by omega, h2, u1⟩
end Go.Proofs.Ytimijeeihicohaa

namespace Go.Proofs.Ytimijeeihicohaa
open Go.RowKit
set_option linter.unusedVariables false
set_option linter.unusedSimpArgs false
set_option maxRecDepth 100000
attribute [local simp] List.getElem?_cons_zero
attribute [local irreducible] awCond awCall awLoop awDraw ow retQ retC resQ Keeps
theorem SrcAt.same {g : Nat} {M M' : Mem} {A : Option Addr} {n c : Nat} {cs : List Int} {k B : Nat} (h : SrcAt g M A n c cs k) (hs : Same B M M') (hg : g < B) (hA : ∀ a, A = some a → 0 < n → a.block < B) : SrcAt g M' A n c cs k := by
  obtain ⟨seed, hr, hsl, hap, hcs⟩ := h
  refine ⟨seed, hs.2 _ _ hg hr, ⟨hsl.1, fun hp => ?_⟩, hap, hcs⟩
  obtain ⟨id, off, e, he, hc⟩ := hsl.2 hp
  have hlt := hA _ e hp
  refine ⟨id, off, e, ?_, fun j y hy => ?_⟩
  · unfold rowEsz at he ⊢
    cases hm : M[id]? with
    | none => rw [hm] at he; cases he
    | some y => rw [hs.2 _ _ hlt hm]; rw [hm] at he; exact he
  · have := hc j y hy
    unfold cellAt at this ⊢
    cases hm : M[id]? with
    | none => rw [hm] at this; cases this
    | some y => rw [hs.2 _ _ hlt hm]; rw [hm] at this; exact this
/-- A source in row g, behind k draws; what it needs lies below B. -/
def Src (g B : Nat) (M : Mem) (k : Nat) : Prop := ∃ A n c cs, SrcAt g M A n c cs k ∧ g < B ∧ (∀ a, A = some a → 0 < n → a.block < B) ∧ n ≤ 1048576
theorem Src.same {g B k : Nat} {M M' : Mem} (h : Src g B M k) (hs : Same B M M') : Src g B M' k := by
  obtain ⟨A, n, c, cs, h1, h2, h3, h4⟩ := h
  exact ⟨A, n, c, cs, h1.same hs h2 h3, h2, h3, h4⟩
theorem Src.app {g B k : Nat} {M : Mem} (h : Src g B M k) (L : Mem) : Src g B (M ++ L) k :=
  h.same ⟨by simp, fun i s _ hs => by rw [List.getElem?_append_left (List.getElem?_eq_some_iff.1 hs).1]; exact hs⟩
theorem UpdS.acc {α : Type} {q : Nat} {R : RecV α q} {e : TypeId} {g B : Nat} {M M' : Mem} {v : Value} {l : List α} (u : UpdS g M M') (h : Acc R e B M v l) (hg : g < B) : Acc R e B M' v l := by
  obtain ⟨A, n, c, h1, h2, h3⟩ := h
  refine ⟨A, n, c, h1, h2, ?_⟩
  rcases h3 with h3 | ⟨id, t, h4, h5, h6⟩
  · exact .inl h3
  · exact .inr ⟨id, t, h4, h5, u.2 _ _ (by omega) h6⟩
theorem UpdS.same {g B : Nat} {M M' : Mem} (u : UpdS g M M') (h : B ≤ g) : Same B M M' := ⟨by rw [u.1]; exact Nat.le_refl _, fun i s hi hs => u.2 i s (by omega) hs⟩
theorem Same.trans {B : Nat} {M M1 M2 : Mem} (h : Same B M M1) (h' : Same B M1 M2) : Same B M M2 := ⟨Nat.le_trans h.1 h'.1, fun i s hi hs => h'.2 i s hi (h.2 i s hi hs)⟩
theorem Same.low {B B' : Nat} {M M' : Mem} (h : Same B M M') (hb : B' ≤ B) : Same B' M M' := ⟨h.1, fun i s hi hs => h.2 i s (by omega) hs⟩
theorem Src.pick {M : Mem} {b g k B : Nat} (m : Int) (h : Src g B M k) (hb : b ≤ g) (hk : k + 2 ≤ 1099511627776) (hm : m ≤ 1099511627776) :
    Ctr Try.prog b 74 [.pointer (some ⟨g, 0, none⟩), iv m] M fun r M' => ∃ (x : Int) (k' : Nat), r = iv x ∧ 0 ≤ x ∧ (x < m ∨ (m ≤ 1 ∧ x = 0)) ∧ k' ≤ k + 2 ∧ Src g B M' k' ∧ UpdS g M M' := by
  obtain ⟨A, n, c, cs, h1, h2, h3, h4⟩ := h
  refine (pick_s m h1 hb hk (by omega) hm).mono fun r M' ⟨x, k', a1, a2, a3, a4, a5, a6⟩ => ⟨x, k', a1, a2, a3, a4, ⟨A, n, c, cs, a5, h2, h3, h4⟩, a6⟩
theorem src_build (A : Option Addr) (n c : Nat) : Instr.fill (fun x => [(0, 1), (1, 1), (2, 1)][x]?) #[.slice none 0 0, .int .i64 0, .int .u64 0] [(0, .slice A n c)] = some #[.slice A n c, .int .i64 0, .int .u64 0] := by rfl
theorem l00From_a {M : Mem} {A : Option Addr} {n c : Nat} {cs : List Int} (h : Sl codeR M A n cs) (hn : n ≤ 1048576) (hcs : ∀ x, x ∈ cs → 0 ≤ x ∧ x ≤ 255) : Det Try.prog M.length 44 [.slice A n c] M (.pointer (some ⟨M.length, 0, none⟩)) (M ++ [.live ⟨[.slice A n c, iv 0, .int .u64 0], true, true, 112, 3⟩]) := by
  refine Ctr.det ?_
  first | (refine ctr_fn Try.func44 rfl Try.ntmps44 Try.results44 rfl rfl (by simp) ?_) | (refine ctr_fnC Try.func44 rfl Try.ntmps44 Try.results44 rfl (by simp) ?_)
  simp [src_build]
theorem src_new {M : Mem} {A : Option Addr} {n c : Nat} {cs : List Int} (h : Sl codeR M A n cs) (hn : n ≤ 1048576) (hcs : ∀ x, x ∈ cs → 0 ≤ x ∧ x ≤ 255) : Src M.length (M.length + 1) (M ++ [.live ⟨[.slice A n c, iv 0, .int .u64 0], true, true, 112, 3⟩]) 0 :=
  ⟨A, n, c, cs, ⟨0, by rw [getElem?_snoc_eq]; rfl, h.app _, fun a e hp => by obtain ⟨b, e', hb⟩ := h.lt hp; rw [e] at e'; cases e'; omega, hcs⟩, by omega, fun a e hp => by obtain ⟨b, e', hb⟩ := h.lt hp; rw [e] at e'; cases e'; omega, hn⟩
end Go.Proofs.Ytimijeeihicohaa

namespace Go.Proofs.Ytimijeeihicohaa
open Go.RowKit
set_option linter.unusedVariables false
set_option linter.unusedSimpArgs false
set_option maxRecDepth 100000
attribute [local simp] List.getElem?_cons_zero
attribute [local irreducible] awCond awCall awLoop awDraw ow retQ retC resQ Keeps
theorem UpdS.sl {α : Type} {q : Nat} {R : RecV α q} {g n : Nat} {M M' : Mem} {A : Option Addr} {l : List α} (u : UpdS g M M') (h : Sl R M A n l) (hA : ∀ a, A = some a → 0 < n → a.block ≠ g) : Sl R M' A n l := by
  refine ⟨h.1, fun hp => ?_⟩
  obtain ⟨id, off, e, he, hc⟩ := h.2 hp
  have hne := hA _ e hp
  have up : ∀ s, M[id]? = some s → M'[id]? = some s := fun s hs => u.2 id s hne hs
  refine ⟨id, off, e, ?_, fun j y hy => ?_⟩
  · unfold rowEsz at he ⊢
    cases hm : M[id]? with
    | none => rw [hm] at he; cases he
    | some y => rw [up y hm]; rw [hm] at he; exact he
  · have := hc j y hy
    unfold cellAt at this ⊢
    cases hm : M[id]? with
    | none => rw [hm] at this; cases this
    | some y => rw [up y hm]; rw [hm] at this; exact this
theorem among_s {M : Mem} {b g k B n c : Nat} {A : Option Addr} {l : List Int} (h : Src g B M k) (hb : b ≤ g) (hk : k + 2 ≤ 1099511627776) (hl : Sl intR M A n l) (hA : ∀ a, A = some a → 0 < n → a.block ≠ g) (h0 : 0 < n) (hn : n ≤ 1099511627776) :
    Ctr Try.prog b 100 [.pointer (some ⟨g, 0, none⟩), .slice A n c] M fun r M' => ∃ (x : Int) (k' : Nat), r = iv x ∧ x ∈ l ∧ k' ≤ k + 2 ∧ Src g B M' k' ∧ UpdS g M M' := by
  have hll := hl.1
  first | (refine ctr_fn Try.func100 rfl Try.ntmps100 Try.results100 rfl rfl (by simp) ?_) | (refine ctr_fnC Try.func100 rfl Try.ntmps100 Try.results100 rfl (by simp) ?_)
  simp
  refine awCall_ctr (h.pick n hb hk (by omega)) ?_
  rintro r M1 ⟨x, k1, rfl, x0, x1, hk1, h1, u1⟩
  obtain ⟨q, rfl⟩ := Int.eq_ofNat_of_zero_le x0
  have hq : q < n := by omega
  obtain ⟨id, off, rfl, he, hc⟩ := (u1.sl hl hA).at_ hq
  have c0 : cellAt M1 id (off + q * 1) = some (iv (el l q)) := hc 0 _ rfl
  simp only [Nat.mul_one] at c0
  simp (disch := omega) [hq, he, c0]
  exact ⟨el_mem (by omega), k1, hk1, h1, u1⟩
end Go.Proofs.Ytimijeeihicohaa

namespace Go.Proofs.Ytimijeeihicohaa
open Go.RowKit
set_option linter.unusedVariables false
set_option linter.unusedSimpArgs false
set_option maxRecDepth 100000
attribute [local simp] List.getElem?_cons_zero
attribute [local irreducible] awCond awCall awLoop awDraw ow retQ retC resQ Keeps
theorem put_box {b : Nat} {M : Mem} {vs cs : List Value} {t : Bool} {e : TypeId} {z : Nat} (hb : b ≤ M.length) (hl : vs.length = cs.length) (h1 : vs.all oneV = true) :
    putCells b (M ++ [.live ⟨cs, true, t, e, z⟩]) M.length 0 vs = some (M ++ [.live ⟨vs, true, t, e, z⟩]) := by
  rw [put_whole getElem?_snoc_eq hb hl h1]
  simp
theorem Same.app (B : Nat) (M L : Mem) : Same B M (M ++ L) := ⟨by simp, fun i s _ hs => by rw [List.getElem?_append_left (List.getElem?_eq_some_iff.1 hs).1]; exact hs⟩
theorem Acc.box {α : Type} {q : Nat} {R : RecV α q} {e : TypeId} {g B : Nat} {M M' : Mem} {s s' : Slot} {v : Value} {l : List α} (h : Acc R e B M v l) (hg : g < B) (u : UpdS g (M ++ [s]) M') : Acc R e B (M'.set M.length s') v l := by
  obtain ⟨A, n, c, h1, h2, h3⟩ := h
  refine ⟨A, n, c, h1, h2, ?_⟩
  rcases h3 with h3 | ⟨id, t, h4, h5, h6⟩
  · exact .inl h3
  · have hlt := (List.getElem?_eq_some_iff.1 h6).1
    exact .inr ⟨id, t, h4, h5, by rw [List.getElem?_set_ne (by omega)]; exact u.2 _ _ (by omega) (by rw [List.getElem?_append_left hlt]; exact h6)⟩
end Go.Proofs.Ytimijeeihicohaa

namespace Go.Proofs.Ytimijeeihicohaa
open Go.RowKit
set_option linter.unusedVariables false
set_option linter.unusedSimpArgs false
set_option maxRecDepth 100000
attribute [local simp] List.getElem?_cons_zero
attribute [local irreducible] awCond awCall awLoop awDraw ow retQ retC resQ Keeps
/-- Row g alone may have turned; more may lie behind. -/
def Grow (g : Nat) (M M' : Mem) : Prop := M.length ≤ M'.length ∧ ∀ (i : Nat) s, i ≠ g → M[i]? = some s → M'[i]? = some s
theorem Grow.refl (g : Nat) (M : Mem) : Grow g M M := ⟨Nat.le_refl _, fun _ _ _ h => h⟩
theorem Grow.trans {g : Nat} {M M1 M2 : Mem} (h : Grow g M M1) (h' : Grow g M1 M2) : Grow g M M2 := ⟨Nat.le_trans h.1 h'.1, fun i s hi hs => h'.2 i s hi (h.2 i s hi hs)⟩
theorem Grow.app (g : Nat) (M L : Mem) : Grow g M (M ++ L) := ⟨by simp, fun i s _ hs => by rw [List.getElem?_append_left (List.getElem?_eq_some_iff.1 hs).1]; exact hs⟩
theorem UpdS.grow {g : Nat} {M M' : Mem} (u : UpdS g M M') : Grow g M M' := ⟨Nat.le_of_eq u.1.symm, u.2⟩
theorem Grow.same {g B : Nat} {M M' : Mem} (u : Grow g M M') (h : B ≤ g) : Same B M M' := ⟨u.1, fun i s hi hs => u.2 i s (by omega) hs⟩
theorem Grow.acc {α : Type} {q : Nat} {R : RecV α q} {e : TypeId} {g B : Nat} {M M' : Mem} {v : Value} {l : List α} (u : Grow g M M') (h : Acc R e B M v l) (hg : g < B) : Acc R e B M' v l := by
  obtain ⟨A, n, c, h1, h2, h3⟩ := h
  refine ⟨A, n, c, h1, h2, ?_⟩
  rcases h3 with h3 | ⟨id, t, h4, h5, h6⟩
  · exact .inl h3
  · exact .inr ⟨id, t, h4, h5, u.2 _ _ (by omega) h6⟩
theorem Same.grow {g B : Nat} {M M' : Mem} (h : Same B M M') (k : ∀ (i : Nat) s, i ≠ g → B ≤ i → M[i]? = some s → M'[i]? = some s) : Grow g M M' :=
  ⟨h.1, fun i s hi hs => (Nat.lt_or_ge i B).elim (fun hb => h.2 i s hb hs) fun hb => k i s hi hb hs⟩
theorem Src.lt {g B k : Nat} {M : Mem} (h : Src g B M k) : g < B := by obtain ⟨_, _, _, _, _, h, _⟩ := h; exact h
theorem nextS {M : Mem} {b g k B : Nat} (h : Src g B M k) (hb : b ≤ g) (hk : k ≤ 1099511627776) :
    Ctr Try.prog b 103 [.pointer (some ⟨g, 0, none⟩)] M fun r M' => ∃ x : Int, r = iv x ∧ 0 ≤ x ∧ x ≤ 255 ∧ Src g B M' (k + 1) ∧ UpdS g M M' := by
  obtain ⟨A, n, c, cs, h1, h2, h3, h4⟩ := h
  exact (next_s h1 hb hk (by omega)).mono fun r M' ⟨⟨x, a1, a2, a3⟩, a4, a5⟩ => ⟨x, a1, a2, a3, ⟨A, n, c, cs, a4, h2, h3, h4⟩, a5⟩
theorem fill4 (a b c d : Int) : Instr.fill (fun i => some (i, 1)) (zrow [iv 0] 4).toArray [(0, iv a), (1, iv b), (2, iv c), (3, iv d)] = some #[iv a, iv b, iv c, iv d] := by rfl
theorem fill1 {z : Value} {kd : IntKind} {n : Int} : Instr.fill (fun i => some (i, 1)) (zrow [z] 1).toArray [(0, .int kd n)] = some #[.int kd n] := by
  have := fill_int (z := z) (kd := kd) (n := n)
  simpa using this
theorem fill_ints {k : IntKind} (l : List Int) {n : Nat} (hn : l.length = n) : Instr.fill (fun i => some (i, 1)) (zrow [.int k 0] n).toArray (((l.map (Value.int k)).zipIdx 0).map fun x => (x.2, x.1)) = some (l.map (Value.int k)).toArray := by
  have h := Go.Great.fill_whole (s := 1) (by omega) (l.map (Value.int k)) (zrow [.int k 0] n).toArray (fun v hv => by obtain ⟨x, -, rfl⟩ := List.mem_map.1 hv; rfl) (by simp [zrow, hn])
  simp only [Nat.mul_one] at h
  rw [h]
  congr 2
  clear h hn
  induction l with
  | nil => rfl
  | cons a l ih => simp only [List.map_cons, List.flatMap_cons, ih, cells_int]; rfl
theorem fill6 (a b c d e f : Int) : Instr.fill (fun i => some (i, 1)) (zrow [iv 0] 6).toArray [(0, iv a), (1, iv b), (2, iv c), (3, iv d), (4, iv e), (5, iv f)] = some #[iv a, iv b, iv c, iv d, iv e, iv f] :=
  fill_ints (k := .i64) [a, b, c, d, e, f] rfl
end Go.Proofs.Ytimijeeihicohaa

namespace Go.Proofs.Ytimijeeihicohaa
open Go.RowKit
set_option linter.unusedVariables false
set_option linter.unusedSimpArgs false
set_option maxRecDepth 100000
attribute [local simp] List.getElem?_cons_zero
attribute [local irreducible] awCond awCall awLoop awDraw ow retQ retC resQ Keeps
theorem among_new {M : Mem} {b g k B : Nat} {cs : List Value} (l : List Int) {n : Nat} (hc : cs = cellsL intR l) (h : Src g B M k) (hb : b ≤ g) (hk : k + 2 ≤ 1099511627776) (h0 : 0 < n) (hn : n ≤ 100) (hl : l.length = n) (hB : B ≤ M.length) :
    Ctr Try.prog b 100 [.pointer (some ⟨g, 0, none⟩), .slice (some ⟨M.length, 0, none⟩) n n] (M ++ [.live ⟨cs, true, true, 2, 1⟩]) fun r M' => ∃ (x : Int) (k' : Nat), r = iv x ∧ x ∈ l ∧ k' ≤ k + 2 ∧ Src g B M' k' ∧ Grow g M M' := by
  subst hc
  have hg := h.lt
  have hsl : Sl intR (M ++ [.live ⟨cellsL intR l, true, true, 2, 1⟩]) (some ⟨M.length, 0, none⟩) n l := Sl.new hl
  refine (among_s (c := n) (h.app _) hb hk hsl (fun a e _ => by injection e with e; subst e; show M.length ≠ g; omega) h0 (by omega)).mono ?_
  rintro r M' ⟨x, k', rfl, hx, hk', hS, u⟩
  exact ⟨x, k', rfl, hx, hk', hS, (Grow.app g M _).trans u.grow⟩
theorem cell_hr {M : Mem} {id : Nat} {r : Row} (h : M[id]? = some (.live r)) (off : Nat) : cellAt M id off = r.cells[off]? := by simp [cellAt, h]
theorem cells_hr {M : Mem} {id n : Nat} {r : Row} (h : M[id]? = some (.live r)) (hn : n = r.cells.length) : cellsAt M id 0 n = some r.cells := by
  subst hn
  simp [cellsAt, h]
theorem set_get {M : Mem} {id : Nat} {s : Slot} (h : id < M.length) : (M.set id s)[id]? = some s := List.getElem?_set_self h
theorem Same.set {B id : Nat} {M : Mem} {s : Slot} (h : B ≤ id) : Same B M (M.set id s) := ⟨by simp, fun i t hi ht => by rw [List.getElem?_set_ne (by omega)]; exact ht⟩
theorem fill5 (a b c d e : Int) : Instr.fill (fun i => some (i, 1)) (zrow [iv 0] 5).toArray [(0, iv a), (1, iv b), (2, iv c), (3, iv d), (4, iv e)] = some #[iv a, iv b, iv c, iv d, iv e] :=
  fill_ints (k := .i64) [a, b, c, d, e] rfl
end Go.Proofs.Ytimijeeihicohaa

namespace Go.Proofs.Ytimijeeihicohaa
open Go.RowKit
set_option linter.unusedVariables false
set_option linter.unusedSimpArgs false
set_option maxRecDepth 100000
attribute [local simp] List.getElem?_cons_zero
attribute [local irreducible] awCond awCall awLoop awDraw ow retQ retC resQ Keeps
/-- The rows with ids from lo up to hi are as they were. -/
def Agree (lo hi : Nat) (M M' : Mem) : Prop := ∀ (i : Nat) s, lo ≤ i → i < hi → M[i]? = some s → M'[i]? = some s
section
variable {M M' : Mem} {lo hi lo' hi' : Nat}
theorem Keeps.agree (h : Keeps M M') : Agree lo hi M M' := fun i s _ _ hs => h.get hs
theorem Turn.agree (h : Turn lo' hi' M M') (hd : hi ≤ lo' ∨ hi' ≤ lo) : Agree lo hi M M' := fun i s h1 h2 hs => h.2 i s hs (by omega)
theorem Same.agree {B : Nat} (h : Same B M M') (hb : hi ≤ B) : Agree lo hi M M' := fun i s _ h2 hs => h.2 i s (by omega) hs
theorem Agree.app (L : Mem) : Agree lo hi M (M ++ L) := (keeps_app L).agree
theorem Agree.thin (h : Agree lo hi M M') (h1 : lo ≤ lo') (h2 : hi' ≤ hi) : Agree lo' hi' M M' := fun i s a b hs => h i s (by omega) (by omega) hs
theorem Agree.trans {M2 : Mem} (h : Agree lo hi M M') (h' : Agree lo hi M' M2) : Agree lo hi M M2 := fun i s a b hs => h' i s a b (h i s a b hs)
theorem Agree.cell (h : Agree lo hi M M') {id off : Nat} {v : Value} (h1 : lo ≤ id) (h2 : id < hi) (hc : cellAt M id off = some v) : cellAt M' id off = some v := by
  unfold cellAt at hc ⊢
  cases hm : M[id]? with
  | none => rw [hm] at hc; cases hc
  | some s => rw [h id s h1 h2 hm]; rw [hm] at hc; exact hc
theorem Agree.cells (h : Agree lo hi M M') {id off n : Nat} {vs : List Value} (h1 : lo ≤ id) (h2 : id < hi) (hc : cellsAt M id off n = some vs) : cellsAt M' id off n = some vs := by
  unfold cellsAt at hc ⊢
  cases hm : M[id]? with
  | none => rw [hm] at hc; cases hc
  | some s => rw [h id s h1 h2 hm]; rw [hm] at hc; exact hc
theorem Agree.esz (h : Agree lo hi M M') {id k : Nat} (h1 : lo ≤ id) (h2 : id < hi) (hc : rowEsz M id = some k) : rowEsz M' id = some k := by
  unfold rowEsz at hc ⊢
  cases hm : M[id]? with
  | none => rw [hm] at hc; cases hc
  | some s => rw [h id s h1 h2 hm]; rw [hm] at hc; exact hc
theorem Agree.cl (h : Agree lo hi M M') {id off : Nat} {xs : List Value} (h1 : lo ≤ id) (h2 : id < hi) (hc : Cl M id off xs) : Cl M' id off xs := fun j x hx => h.cell h1 h2 (hc j x hx)
end
@[simp] theorem cl_nil {M : Mem} {id off : Nat} : Cl M id off [] := fun j x hx => by simp at hx
theorem cl_cons {M : Mem} {id off : Nat} {x : Value} {xs : List Value} : Cl M id off (x :: xs) ↔ cellAt M id off = some x ∧ Cl M id (off + 1) xs := by
  constructor
  · intro h
    exact ⟨h 0 x rfl, fun j y hy => by have := h (j + 1) y (by simpa using hy); rwa [show off + (j + 1) = off + 1 + j by omega] at this⟩
  · rintro ⟨h1, h2⟩ j y hy
    rcases j with _ | j
    · simp at hy; subst hy; exact h1
    · have := h2 j y (by simpa using hy); rwa [show off + 1 + j = off + (j + 1) by omega] at this
/-- What a value is in memory, its rows' ids from lo up to hi. -/
structure RecP (α : Type) (k : Nat) where
  rd : Nat → Nat → Mem → α → List Value → Prop
  len : ∀ {lo hi M a vs}, rd lo hi M a vs → vs.length = k
  agree : ∀ {lo hi M M' a vs}, rd lo hi M a vs → Agree lo hi M M' → rd lo hi M' a vs
  wide : ∀ {lo hi lo' hi' M a vs}, rd lo hi M a vs → lo' ≤ lo → hi ≤ hi' → rd lo' hi' M a vs
section
variable {α : Type} {k : Nat}
theorem RecP.keeps (P : RecP α k) {lo hi : Nat} {M M' : Mem} {a : α} {vs : List Value} (h : P.rd lo hi M a vs) (hk : Keeps M M') : P.rd lo hi M' a vs := P.agree h hk.agree
theorem RecP.app (P : RecP α k) {lo hi : Nat} {M : Mem} {a : α} {vs : List Value} (h : P.rd lo hi M a vs) (L : Mem) : P.rd lo hi (M ++ L) a vs := P.agree h (Agree.app L)
theorem RecP.up (P : RecP α k) {lo : Nat} {M : Mem} {a : α} {vs : List Value} (h : P.rd lo M.length M a vs) (L : Mem) : P.rd lo (M ++ L).length (M ++ L) a vs := P.wide (P.app h L) (Nat.le_refl _) (by simp)
def RecP.flat (R : RecV α k) : RecP α k where
  rd := fun _ _ _ a vs => vs = R.row a
  len := fun h => by rw [h, R.len]
  agree := fun h _ => h
  wide := fun h _ _ => h
abbrev intP : RecP Int 1 := .flat intR
/-- The slice .slice A n c reads as the values l. -/
def SlP (P : RecP α k) [Inhabited α] (lo hi : Nat) (M : Mem) (A : Option Addr) (n : Nat) (l : List α) : Prop :=
  l.length = n ∧ (0 < n → ∃ id off, A = some ⟨id, off, none⟩ ∧ lo ≤ id ∧ id < hi ∧ rowEsz M id = some k ∧ ∀ i, i < n → ∃ us, P.rd lo hi M (el l i) us ∧ Cl M id (off + i * k) us)
variable [Inhabited α] {P : RecP α k} {lo hi lo' hi' : Nat} {M M' : Mem} {A : Option Addr} {n : Nat} {l : List α}
theorem SlP.agree (h : SlP P lo hi M A n l) (hg : Agree lo hi M M') : SlP P lo hi M' A n l := ⟨h.1, fun hn => by
  obtain ⟨id, off, e, h1, h2, h3, h4⟩ := h.2 hn
  refine ⟨id, off, e, h1, h2, hg.esz h1 h2 h3, fun i hi => ?_⟩
  obtain ⟨us, a, b⟩ := h4 i hi
  exact ⟨us, P.agree a hg, hg.cl h1 h2 b⟩⟩
theorem SlP.wide (h : SlP P lo hi M A n l) (w1 : lo' ≤ lo) (w2 : hi ≤ hi') : SlP P lo' hi' M A n l := ⟨h.1, fun hn => by
  obtain ⟨id, off, e, h1, h2, h3, h4⟩ := h.2 hn
  refine ⟨id, off, e, by omega, by omega, h3, fun i hi => ?_⟩
  obtain ⟨us, a, b⟩ := h4 i hi
  exact ⟨us, P.wide a w1 w2, b⟩⟩
theorem SlP.keeps (h : SlP P lo hi M A n l) (hk : Keeps M M') : SlP P lo hi M' A n l := h.agree hk.agree
theorem SlP.app (h : SlP P lo hi M A n l) (L : Mem) : SlP P lo hi (M ++ L) A n l := h.agree (Agree.app L)
theorem SlP.at_ (h : SlP P lo hi M A n l) {i : Nat} (hi' : i < n) : ∃ id off us, A = some ⟨id, off, none⟩ ∧ rowEsz M id = some k ∧ P.rd lo hi M (el l i) us ∧ Cl M id (off + i * k) us := by
  obtain ⟨id, off, e, h1, h2, h3, h4⟩ := h.2 (by omega)
  obtain ⟨us, a, b⟩ := h4 i hi'
  exact ⟨id, off, us, e, h3, a, b⟩
theorem SlP.sl {R : RecV α k} (h : SlP (.flat R) lo hi M A n l) : Sl R M A n l := ⟨h.1, fun hn => by
  obtain ⟨id, off, e, h1, h2, h3, h4⟩ := h.2 hn
  refine ⟨id, off, e, h3, fun j x hx => ?_⟩
  have hj : j < l.length * k := by have := (List.getElem?_eq_some_iff.1 hx).1; rwa [cellsL_len] at this
  have hk : 0 < k := by
    rcases Nat.eq_zero_or_pos k with h0 | h0
    · subst h0; simp at hj
    · exact h0
  have hi' : j / k < l.length := Nat.div_lt_of_lt_mul (by rwa [Nat.mul_comm])
  obtain ⟨us, rfl, hc⟩ := h4 (j / k) (by rw [← h.1]; exact hi')
  have e : j = j / k * k + j % k := (by rw [Nat.mul_comm]; exact (Nat.div_add_mod j k).symm)
  rw [e, cellsL_get R hi' (Nat.mod_lt _ hk)] at hx
  have := hc (j % k) x hx
  rwa [show off + j / k * k + j % k = off + j by omega] at this⟩
theorem SlP.of_sl {R : RecV α k} (h : Sl R M A n l) (hr : ∀ a, A = some a → 0 < n → lo ≤ a.block ∧ a.block < hi) : SlP (.flat R) lo hi M A n l := ⟨h.1, fun hn => by
  obtain ⟨id, off, e, he, hc⟩ := h.2 hn
  obtain ⟨r1, r2⟩ := hr _ e hn
  refine ⟨id, off, e, r1, r2, he, fun i hi => ⟨_, rfl, fun j x hx => ?_⟩⟩
  have hj : j < k := by have := (List.getElem?_eq_some_iff.1 hx).1; rwa [R.len] at this
  rw [Nat.add_assoc]
  exact hc _ _ (by rw [cellsL_get R (by rw [h.1]; exact hi) hj]; exact hx)⟩
/-- A value that is a slice of such values. -/
def SlV (P : RecP α k) (lo hi : Nat) (M : Mem) (u : Value) (l : List α) : Prop := ∃ A n c, u = .slice A n c ∧ n ≤ 9223372036854775807 ∧ (A = none → c = 0) ∧ SlP P lo hi M A n l
theorem SlV.agree {u : Value} (h : SlV P lo hi M u l) (hg : Agree lo hi M M') : SlV P lo hi M' u l := by
  obtain ⟨A, n, c, h1, h2, h3, h4⟩ := h
  exact ⟨A, n, c, h1, h2, h3, h4.agree hg⟩
theorem SlV.keeps {u : Value} (h : SlV P lo hi M u l) (hk : Keeps M M') : SlV P lo hi M' u l := h.agree hk.agree
theorem SlV.app {u : Value} (h : SlV P lo hi M u l) (L : Mem) : SlV P lo hi (M ++ L) u l := h.agree (Agree.app L)
theorem SlV.wide {u : Value} (h : SlV P lo hi M u l) (w1 : lo' ≤ lo) (w2 : hi ≤ hi') : SlV P lo' hi' M u l := by
  obtain ⟨A, n, c, h1, h2, h3, h4⟩ := h
  exact ⟨A, n, c, h1, h2, h3, h4.wide w1 w2⟩
theorem SlV.up {u : Value} (h : SlV P lo M.length M u l) (L : Mem) : SlV P lo (M ++ L).length (M ++ L) u l := (h.app L).wide (Nat.le_refl _) (by simp)
theorem SlV.nil : SlV P lo hi M (.slice none 0 0) [] := ⟨none, 0, 0, rfl, by omega, fun _ => rfl, rfl, fun h => by omega⟩
theorem SlV.one {u : Value} (h : SlV P lo hi M u l) : oneV u = true := by
  obtain ⟨A, n, c, rfl, _⟩ := h
  rfl
def RecP.sl (P : RecP α k) : RecP (List α) 1 where
  rd := fun lo hi M l vs => ∃ u, vs = [u] ∧ SlV P lo hi M u l
  len := fun ⟨u, h, _⟩ => by rw [h]; rfl
  agree := fun ⟨u, h1, h2⟩ hg => ⟨u, h1, h2.agree hg⟩
  wide := fun ⟨u, h1, h2⟩ a b => ⟨u, h1, h2.wide a b⟩
theorem OwL.slv {R : RecV α k} {v : Value} (h : OwL R lo hi M v l) (hc : ∀ n c, v = .slice none n c → c = 0) : SlV (.flat R) lo hi M v l := by
  obtain ⟨A, n, c, rfl, h2, h3, h4, _⟩ := h
  exact ⟨A, n, c, rfl, by omega, fun e => hc n c (by rw [e]), SlP.of_sl h3 h4⟩
theorem Acc.slv {R : RecV α k} {e : TypeId} {B : Nat} {v : Value} (h : Acc R e B M v l) (hn : l.length ≤ 9223372036854775807) : SlV (.flat R) B M.length M v l := by
  obtain ⟨A, n, c, rfl, hl, hA⟩ := h
  rcases hA with ⟨rfl, rfl, rfl⟩ | ⟨id, t, rfl, hid, hr⟩
  · exact ⟨none, 0, 0, rfl, by omega, fun _ => rfl, hl, fun h => by omega⟩
  · refine ⟨_, n, c, rfl, by omega, (fun h => by cases h), SlP.of_sl ⟨hl, fun _ => ⟨id, 0, rfl, by simp [rowEsz, hr], fun j x hx => by simp [cellAt, hr, hx]⟩⟩ fun a e _ => ?_⟩
    injection e with e
    subst e
    exact ⟨hid, (List.getElem?_eq_some_iff.1 hr).1⟩
end
/-- Two values side by side. -/
def RecP.cat {α β : Type} {k m : Nat} (P : RecP α k) (Q : RecP β m) : RecP (α × β) (k + m) where
  rd := fun lo hi M a vs => ∃ us ws, vs = us ++ ws ∧ P.rd lo hi M a.1 us ∧ Q.rd lo hi M a.2 ws
  len := fun ⟨us, ws, h, h1, h2⟩ => by rw [h, List.length_append, P.len h1, Q.len h2]
  agree := fun ⟨us, ws, h, h1, h2⟩ hg => ⟨us, ws, h, P.agree h1 hg, Q.agree h2 hg⟩
  wide := fun ⟨us, ws, h, h1, h2⟩ a b => ⟨us, ws, h, P.wide h1 a b, Q.wide h2 a b⟩
def RecP.unit : RecP Unit 0 where
  rd := fun _ _ _ _ vs => vs = []
  len := fun h => by rw [h]; rfl
  agree := fun h _ => h
  wide := fun h _ _ => h
def RecP.map {α β : Type} {k : Nat} (f : β → α) (P : RecP α k) : RecP β k where
  rd := fun lo hi M a vs => P.rd lo hi M (f a) vs
  len := fun h => P.len h
  agree := fun h hg => P.agree h hg
  wide := fun h a b => P.wide h a b
end Go.Proofs.Ytimijeeihicohaa
