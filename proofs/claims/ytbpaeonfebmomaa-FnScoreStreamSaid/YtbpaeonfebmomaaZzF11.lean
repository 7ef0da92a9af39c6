/- Parts of the proof, together: The source of choices: a number is drawn. The source of choices, beside lists that grow. A choice among numbers. Boxes beside a source and lists that grow. Words for what draws: growth beside a source, built lists of numbers. Words for what draws: choices among built numbers, rows read and set. Tempo maps: the reference's functions. Tempo maps: the reference's position of a beat. A region that dra No conditions. -/
import Derived.Test.YtbpaeonfebmomaaZzF8
import Derived.Test.YtbpaeonfebmomaaZzF10
import Derived.Test.YtbpaeonfebmomaaZzF6
import Derived.Test.YtbpaeonfebmomaaZzF9
namespace Go.Proofs.Ytbpaeonfebmomaa
open Go.RowKit
set_option linter.unusedVariables false
set_option linter.unusedSimpArgs false
set_option maxRecDepth 100000
attribute [local simp] List.getElem?_cons_zero
attribute [local irreducible] awCond awCall awLoop awDraw ow retQ retC resQ Keeps
def codeR : RecV Int 1 := ⟨fun n => [.int .u8 n], fun _ => rfl⟩
/-- The source in row g, behind k draws; cs: the bytes it reads. -/
def SrcAt (g : Nat) (M : Mem) (A : Option Addr) (n c : Nat) (cs : List Int) (k : Nat) : Prop :=
  ∃ seed : Int, M[g]? = some (.live ⟨[.slice A n c, iv k, .int .u64 seed], true, true, 93, 3⟩) ∧ Sl codeR M A n cs ∧ (∀ a, A = some a → 0 < n → a.block ≠ g) ∧ ∀ x, x ∈ cs → 0 ≤ x ∧ x ≤ 255
def UpdS (g : Nat) (M M' : Mem) : Prop := M'.length = M.length ∧ ∀ (i : Nat) s, i ≠ g → M[i]? = some s → M'[i]? = some s
theorem put_row {b : Nat} {M : Mem} {id p : Nat} {v : Value} {cs : List Value} {t : Bool} {e : TypeId} {z : Nat} (hr : M[id]? = some (.live ⟨cs, true, t, e, z⟩)) (hb : b ≤ id) (hp : p < cs.length) (h1 : oneV v = true) :
    putCells b M id p [v] = some (M.set id (.live ⟨cs.set p v, true, t, e, z⟩)) := by
  have := put_set (b := b) (M := M) (id := id) (p := p) (v := v) (cs := cs) (t := t) (e := e) (z := z) (List.getElem?_eq_some_iff.1 hr).1 hb hp h1
  rw [set_self hr] at this
  exact this
theorem cell_row {M : Mem} {id off : Nat} {r : Row} (h : id < M.length) : cellAt (M.set id (.live r)) id off = r.cells[off]? := by
  simp [cellAt, h]
theorem u8_in {x : Int} (h1 : 0 ≤ x) (h2 : x ≤ 255) : IntKind.u64.wrap x = x := by
  have e : (2 : Int) ^ IntKind.u64.bits = 18446744073709551616 := by decide
  have e2 : IntKind.u64.signed = false := rfl
  simp only [IntKind.wrap, e, e2]
  simp
  omega
theorem and_bd (a : Int) : 0 ≤ ((BitVec.ofInt IntKind.u64.bits a &&& BitVec.ofInt IntKind.u64.bits 255).toNat : Int) ∧ ((BitVec.ofInt IntKind.u64.bits a &&& BitVec.ofInt IntKind.u64.bits 255).toNat : Int) ≤ 255 := by
  have e : (BitVec.ofInt IntKind.u64.bits 255).toNat = 255 := by decide
  have := Nat.and_le_right (n := (BitVec.ofInt IntKind.u64.bits a).toNat) (m := (BitVec.ofInt IntKind.u64.bits 255).toNat)
  rw [BitVec.toNat_and]
  rw [e] at this ⊢
  omega
theorem shr40 (a : Int) : intV .shr .u64 a 40 = some (.int .u64 (a.fdiv (2 ^ 40))) := by rfl
def mask8 (a : Int) : Int := IntKind.u64.wrap ((BitVec.ofInt IntKind.u64.bits a &&& BitVec.ofInt IntKind.u64.bits 255).toNat : Int)
theorem mask8_bd (a : Int) : 0 ≤ mask8 a ∧ mask8 a ≤ 255 := by
  have h := and_bd a
  unfold mask8
  rw [u8_in h.1 h.2]
  exact h
theorem and255 (a : Int) : intV .and .u64 a 255 = some (.int .u64 (mask8 a)) := by rfl
theorem next_s {M : Mem} {b g k n c : Nat} {A : Option Addr} {cs : List Int} (h : SrcAt g M A n c cs k) (hb : b ≤ g) (hk : k ≤ 1099511627776) (hn : n ≤ 1099511627776) :
    Ctr Try.prog b 76 [.pointer (some ⟨g, 0, none⟩)] M fun r M' => (∃ x : Int, r = iv x ∧ 0 ≤ x ∧ x ≤ 255) ∧ SrcAt g M' A n c cs (k + 1) ∧ UpdS g M M' := by
  obtain ⟨seed, hr, hsl, hap, hcs⟩ := h
  have hgl := (List.getElem?_eq_some_iff.1 hr).1
  have a0 : cellAt M g 0 = some (.slice A n c) := by simp [cellAt, hr]
  have a1 : cellAt M g 1 = some (iv k) := by simp [cellAt, hr]
  have hput1 := put_row (b := b) (p := 1) (v := iv (k + 1)) hr hb (by simp) rfl
  obtain ⟨M1, hM1⟩ : ∃ M1 : Mem, M1 = M.set g (.live ⟨[.slice A n c, iv (k + 1), .int .u64 seed], true, true, 93, 3⟩) := ⟨_, rfl⟩
  have hput1' : putCells b M g 1 [iv (k + 1)] = some M1 := by rw [hput1, hM1]; rfl
  have hr1 : M1[g]? = some (.live ⟨[.slice A n c, iv (k + 1), .int .u64 seed], true, true, 93, 3⟩) := by rw [hM1, List.getElem?_set_self hgl]
  have hl1 : M1.length = M.length := by rw [hM1]; simp
  have hu1 : ∀ (i : Nat) x, i ≠ g → M[i]? = some x → M1[i]? = some x := fun i x hi hx => by rw [hM1, List.getElem?_set_ne (Ne.symm hi)]; exact hx
  clear hM1 hput1
  have a2 : cellAt M1 g 2 = some (.int .u64 seed) := by simp [cellAt, hr1]
  have hput2 := fun z : Int => put_row (b := b) (p := 2) (v := .int .u64 z) hr1 hb (by simp) rfl
  have C := fun (off : Nat) (cs : List Value) => cell_row (M := M1) (id := g) (off := off) (r := ⟨cs, true, true, 93, 3⟩) (by omega)
  have fin : ∀ (x z : Int), 0 ≤ x → x ≤ 255 → (0 ≤ x ∧ x ≤ 255) ∧ SrcAt g (M1.set g (.live ⟨[.slice A n c, iv (k + 1), .int .u64 z], true, true, 93, 3⟩)) A n c cs (k + 1) ∧ UpdS g M (M1.set g (.live ⟨[.slice A n c, iv (k + 1), .int .u64 z], true, true, 93, 3⟩)) := by
    intro x z h1 h2
    have hup : ∀ (i : Nat) y, i ≠ g → M[i]? = some y → (M1.set g (.live ⟨[.slice A n c, iv (k + 1), .int .u64 z], true, true, 93, 3⟩))[i]? = some y := fun i y hi hy => by rw [List.getElem?_set_ne (Ne.symm hi)]; exact hu1 i y hi hy
    refine ⟨⟨h1, h2⟩, ⟨z, by rw [List.getElem?_set_self (by omega)]; rfl, ⟨hsl.1, fun hp => ?_⟩, hap, hcs⟩, by simp [hl1], hup⟩
    obtain ⟨id, off, e, he, hc⟩ := hsl.2 hp
    have hne : id ≠ g := hap _ e hp
    have heq : ∀ y, M[id]? = some y → (M1.set g (.live ⟨[.slice A n c, iv (k + 1), .int .u64 z], true, true, 93, 3⟩))[id]? = some y := fun y hy => hup id y hne hy
    refine ⟨id, off, e, ?_, fun j y hy => ?_⟩
    · unfold rowEsz at he ⊢
      cases hm : M[id]? with
      | none => rw [hm] at he; cases he
      | some y => rw [heq y hm]; rw [hm] at he; exact he
    · have := hc j y hy
      unfold cellAt at this ⊢
      cases hm : M[id]? with
      | none => rw [hm] at this; cases this
      | some y => rw [heq y hm]; rw [hm] at this; exact this
  first | (refine ctr_fn Try.func76 rfl Try.ntmps76 Try.results76 rfl rfl (by simp) ?_) | (refine ctr_fnC Try.func76 rfl Try.ntmps76 Try.results76 rfl (by simp) ?_)
  simp
  refine awDraw_E 9 [[],[0],[1,0],[2,1,0],[],[4],[5,4],[6,5,4],[7,6,5,4],[3,2,1,0,8,7,6,5,4]] (by kernel_rfl) (by kernel_rfl) ?_
  simp [a0, a1]
  by_cases hkn : k < n
  · obtain ⟨id, off, rfl, he, hc⟩ := hsl.at_ hkn
    have hb0 : cellAt M id (off + k * 1) = some (.int .u8 (el cs k)) := hc 0 _ rfl
    simp only [Nat.mul_one] at hb0
    have hx := hcs _ (el_mem (l := cs) (i := k) (by have := hsl.1; omega))
    simp [hkn]
    refine awDraw_E 8 [[],[0],[1,0],[2,1,0],[],[4],[5,4],[6,5,4],[3,2,1,0,7,6,5,4],[8,3,2,1,0,7,6,5,4],[9,8,3,2,1,0,7,6,5,4],[10,9,8,3,2,1,0,7,6,5,4]] (by kernel_rfl) (by kernel_rfl) ?_
    have hw1 : (k : Int) + 1 ≤ n := by omega
    simp (disch := omega) [a0, a1, hkn, he, hb0, wrap_in, hput1', a2, hput2, C]
    refine awDraw_E 9 [[],[0],[1,0],[2,1,0],[],[4],[5,4],[6,5,4],[7,6,5,4],[3,2,1,0,8,7,6,5,4]] (by kernel_rfl) (by kernel_rfl) ?_
    simp (disch := omega) [C, wrap_in, hw1]
    exact fin _ _ hx.1 hx.2
  · simp (disch := omega) [hkn, a1, hput1', a2, hput2, wrap_in, C]
    refine awDraw_E 9 [[],[0],[1,0],[2,1,0],[],[4],[5,4],[6,5,4],[7,6,5,4],[3,2,1,0,8,7,6,5,4]] (by kernel_rfl) (by kernel_rfl) ?_
    have hw1 : ¬ (k : Int) + 1 ≤ n := by omega
    simp (disch := omega) [C, wrap_in, hw1]
    generalize IntKind.u64.wrap (IntKind.u64.wrap (IntKind.u64.wrap (seed * 6364136223846793005) + IntKind.u64.wrap 0) + 1442695040888963407) = Z
    have hx := mask8_bd (Z.fdiv (2 ^ 40))
    rw [shr40]
    generalize Z.fdiv (2 ^ 40) = Y at hx ⊢
    simp (disch := omega) [and255, wrap_in]
    exact fin _ _ hx.1 hx.2
theorem pick_s {M : Mem} {b g k n c : Nat} {A : Option Addr} {cs : List Int} (m : Int) (h : SrcAt g M A n c cs k) (hb : b ≤ g) (hk : k + 2 ≤ 1099511627776) (hn : n ≤ 1099511627776) (hm : m ≤ 1099511627776) :
    Ctr Try.prog b 50 [.pointer (some ⟨g, 0, none⟩), iv m] M fun r M' => ∃ (x : Int) (k' : Nat), r = iv x ∧ 0 ≤ x ∧ (x < m ∨ (m ≤ 1 ∧ x = 0)) ∧ k' ≤ k + 2 ∧ SrcAt g M' A n c cs k' ∧ UpdS g M M' := by
  first | (refine ctr_fn Try.func50 rfl Try.ntmps50 Try.results50 rfl rfl (by simp) ?_) | (refine ctr_fnC Try.func50 rfl Try.ntmps50 Try.results50 rfl (by simp) ?_)
  simp
  by_cases h1 : m ≤ 1
  · simp [h1]
    exact ⟨k, by omega, h, rfl, fun i s _ hs => hs⟩
  · simp [h1]
    refine awCall_ctr (next_s h hb (by omega) hn) ?_
    rintro r M1 ⟨⟨x, rfl, x0, x1⟩, h2, u1⟩
    have hmod : ∀ y : Int, 0 ≤ y → y.tmod m = y % m ∧ 0 ≤ y % m ∧ y % m < m := fun y hy => ⟨Int.tmod_eq_emod_of_nonneg hy, Int.emod_nonneg _ (by omega), Int.emod_lt_of_pos _ (by omega)⟩
    have hm0 : ¬ m = 0 := by omega
    by_cases h3 : 200 < m
    · simp (disch := omega) [h3, wrap_in]
      refine awCall_ctr (next_s h2 hb (by omega) hn) ?_
      rintro r M2 ⟨⟨y, rfl, y0, y1⟩, h4, u2⟩
      obtain ⟨e1, e2, e3⟩ := hmod (x * 256 + y) (by omega)
      simp (disch := omega) [wrap_in, hm0, e1]
      exact ⟨e2, .inl e3, k + 1 + 1, by omega, h4, u2.1.trans u1.1, fun i s hi hs => u2.2 i s hi (u1.2 i s hi hs)⟩
    · obtain ⟨e1, e2, e3⟩ := hmod x x0
      simp (disch := omega) [h3, wrap_in, hm0, e1]
      exact ⟨e2, .inl e3, k + 1, by omega, h2, u1⟩
end Go.Proofs.Ytbpaeonfebmomaa

namespace Go.Proofs.Ytbpaeonfebmomaa
open Go.RowKit
set_option linter.unusedVariables false
set_option linter.unusedSimpArgs false
set_option maxRecDepth 100000
attribute [local simp] List.getElem?_cons_zero
attribute [local irreducible] awCond awCall awLoop awDraw ow retQ retC resQ Keeps
theorem SrcAt.same {g : Nat} {M M' : Mem} {A : Option Addr} {n c : Nat} {cs : List Int} {k B : Nat} (h : SrcAt g M A n c cs k) (hs : Same B M M') (hg : g < B) (hA : ∀ a, A = some a → 0 < n → a.block < B) : SrcAt g M' A n c cs k := by
  obtain ⟨seed, hr, hsl, hap, hcs⟩ := h
  refine ⟨seed, hs.2 _ _ hg hr, ⟨hsl.1, fun hp => ?_⟩, hap, hcs⟩
  obtain ⟨id, off, e, he, hc⟩ := hsl.2 hp
  have hlt := hA _ e hp
  refine ⟨id, off, e, ?_, fun j y hy => ?_⟩
  · unfold rowEsz at he ⊢
    cases hm : M[id]? with
    | none => rw [hm] at he; cases he
    | some y => rw [hs.2 _ _ hlt hm]; rw [hm] at he; exact he
  · have := hc j y hy
    unfold cellAt at this ⊢
    cases hm : M[id]? with
    | none => rw [hm] at this; cases this
    | some y => rw [hs.2 _ _ hlt hm]; rw [hm] at this; exact this
/-- A source in row g, behind k draws; what it needs lies below B. -/
def Src (g B : Nat) (M : Mem) (k : Nat) : Prop := ∃ A n c cs, SrcAt g M A n c cs k ∧ g < B ∧ (∀ a, A = some a → 0 < n → a.block < B) ∧ n ≤ 1048576
theorem Src.same {g B k : Nat} {M M' : Mem} (h : Src g B M k) (hs : Same B M M') : Src g B M' k := by
  obtain ⟨A, n, c, cs, h1, h2, h3, h4⟩ := h
  exact ⟨A, n, c, cs, h1.same hs h2 h3, h2, h3, h4⟩
theorem Src.app {g B k : Nat} {M : Mem} (h : Src g B M k) (L : Mem) : Src g B (M ++ L) k :=
  h.same ⟨by simp, fun i s _ hs => by rw [List.getElem?_append_left (List.getElem?_eq_some_iff.1 hs).1]; exact hs⟩
theorem UpdS.acc {α : Type} {q : Nat} {R : RecV α q} {e : TypeId} {g B : Nat} {M M' : Mem} {v : Value} {l : List α} (u : UpdS g M M') (h : Acc R e B M v l) (hg : g < B) : Acc R e B M' v l := by
  obtain ⟨A, n, c, h1, h2, h3⟩ := h
  refine ⟨A, n, c, h1, h2, ?_⟩
  rcases h3 with h3 | ⟨id, t, h4, h5, h6⟩
  · exact .inl h3
  · exact .inr ⟨id, t, h4, h5, u.2 _ _ (by omega) h6⟩
theorem UpdS.same {g B : Nat} {M M' : Mem} (u : UpdS g M M') (h : B ≤ g) : Same B M M' := ⟨by rw [u.1]; exact Nat.le_refl _, fun i s hi hs => u.2 i s (by omega) hs⟩
theorem Same.trans {B : Nat} {M M1 M2 : Mem} (h : Same B M M1) (h' : Same B M1 M2) : Same B M M2 := ⟨Nat.le_trans h.1 h'.1, fun i s hi hs => h'.2 i s hi (h.2 i s hi hs)⟩
theorem Same.low {B B' : Nat} {M M' : Mem} (h : Same B M M') (hb : B' ≤ B) : Same B' M M' := ⟨h.1, fun i s hi hs => h.2 i s (by omega) hs⟩
theorem Src.pick {M : Mem} {b g k B : Nat} (m : Int) (h : Src g B M k) (hb : b ≤ g) (hk : k + 2 ≤ 1099511627776) (hm : m ≤ 1099511627776) :
    Ctr Try.prog b 50 [.pointer (some ⟨g, 0, none⟩), iv m] M fun r M' => ∃ (x : Int) (k' : Nat), r = iv x ∧ 0 ≤ x ∧ (x < m ∨ (m ≤ 1 ∧ x = 0)) ∧ k' ≤ k + 2 ∧ Src g B M' k' ∧ UpdS g M M' := by
  obtain ⟨A, n, c, cs, h1, h2, h3, h4⟩ := h
  refine (pick_s m h1 hb hk (by omega) hm).mono fun r M' ⟨x, k', a1, a2, a3, a4, a5, a6⟩ => ⟨x, k', a1, a2, a3, a4, ⟨A, n, c, cs, a5, h2, h3, h4⟩, a6⟩
theorem src_build (A : Option Addr) (n c : Nat) : Instr.fill (fun x => [(0, 1), (1, 1), (2, 1)][x]?) #[.slice none 0 0, .int .i64 0, .int .u64 0] [(0, .slice A n c)] = some #[.slice A n c, .int .i64 0, .int .u64 0] := by rfl
theorem l00From_a {M : Mem} {A : Option Addr} {n c : Nat} {cs : List Int} (h : Sl codeR M A n cs) (hn : n ≤ 1048576) (hcs : ∀ x, x ∈ cs → 0 ≤ x ∧ x ≤ 255) : Det Try.prog M.length 22 [.slice A n c] M (.pointer (some ⟨M.length, 0, none⟩)) (M ++ [.live ⟨[.slice A n c, iv 0, .int .u64 0], true, true, 93, 3⟩]) := by
  refine Ctr.det ?_
  first | (refine ctr_fn Try.func22 rfl Try.ntmps22 Try.results22 rfl rfl (by simp) ?_) | (refine ctr_fnC Try.func22 rfl Try.ntmps22 Try.results22 rfl (by simp) ?_)
  simp [src_build]
theorem src_new {M : Mem} {A : Option Addr} {n c : Nat} {cs : List Int} (h : Sl codeR M A n cs) (hn : n ≤ 1048576) (hcs : ∀ x, x ∈ cs → 0 ≤ x ∧ x ≤ 255) : Src M.length (M.length + 1) (M ++ [.live ⟨[.slice A n c, iv 0, .int .u64 0], true, true, 93, 3⟩]) 0 :=
  ⟨A, n, c, cs, ⟨0, by rw [getElem?_snoc_eq]; rfl, h.app _, fun a e hp => by obtain ⟨b, e', hb⟩ := h.lt hp; rw [e] at e'; cases e'; omega, hcs⟩, by omega, fun a e hp => by obtain ⟨b, e', hb⟩ := h.lt hp; rw [e] at e'; cases e'; omega, hn⟩
end Go.Proofs.Ytbpaeonfebmomaa

namespace Go.Proofs.Ytbpaeonfebmomaa
open Go.RowKit
set_option linter.unusedVariables false
set_option linter.unusedSimpArgs false
set_option maxRecDepth 100000
attribute [local simp] List.getElem?_cons_zero
attribute [local irreducible] awCond awCall awLoop awDraw ow retQ retC resQ Keeps
theorem UpdS.sl {α : Type} {q : Nat} {R : RecV α q} {g n : Nat} {M M' : Mem} {A : Option Addr} {l : List α} (u : UpdS g M M') (h : Sl R M A n l) (hA : ∀ a, A = some a → 0 < n → a.block ≠ g) : Sl R M' A n l := by
  refine ⟨h.1, fun hp => ?_⟩
  obtain ⟨id, off, e, he, hc⟩ := h.2 hp
  have hne := hA _ e hp
  have up : ∀ s, M[id]? = some s → M'[id]? = some s := fun s hs => u.2 id s hne hs
  refine ⟨id, off, e, ?_, fun j y hy => ?_⟩
  · unfold rowEsz at he ⊢
    cases hm : M[id]? with
    | none => rw [hm] at he; cases he
    | some y => rw [up y hm]; rw [hm] at he; exact he
  · have := hc j y hy
    unfold cellAt at this ⊢
    cases hm : M[id]? with
    | none => rw [hm] at this; cases this
    | some y => rw [up y hm]; rw [hm] at this; exact this
theorem among_s {M : Mem} {b g k B n c : Nat} {A : Option Addr} {l : List Int} (h : Src g B M k) (hb : b ≤ g) (hk : k + 2 ≤ 1099511627776) (hl : Sl intR M A n l) (hA : ∀ a, A = some a → 0 < n → a.block ≠ g) (h0 : 0 < n) (hn : n ≤ 1099511627776) :
    Ctr Try.prog b 78 [.pointer (some ⟨g, 0, none⟩), .slice A n c] M fun r M' => ∃ (x : Int) (k' : Nat), r = iv x ∧ x ∈ l ∧ k' ≤ k + 2 ∧ Src g B M' k' ∧ UpdS g M M' := by
  have hll := hl.1
  first | (refine ctr_fn Try.func78 rfl Try.ntmps78 Try.results78 rfl rfl (by simp) ?_) | (refine ctr_fnC Try.func78 rfl Try.ntmps78 Try.results78 rfl (by simp) ?_)
  simp
  refine awCall_ctr (h.pick n hb hk (by omega)) ?_
  rintro r M1 ⟨x, k1, rfl, x0, x1, hk1, h1, u1⟩
  obtain ⟨q, rfl⟩ := Int.eq_ofNat_of_zero_le x0
  have hq : q < n := by omega
  obtain ⟨id, off, rfl, he, hc⟩ := (u1.sl hl hA).at_ hq
  have c0 : cellAt M1 id (off + q * 1) = some (iv (el l q)) := hc 0 _ rfl
  simp only [Nat.mul_one] at c0
  simp (disch := omega) [hq, he, c0]
  exact ⟨el_mem (by omega), k1, hk1, h1, u1⟩
end Go.Proofs.Ytbpaeonfebmomaa

namespace Go.Proofs.Ytbpaeonfebmomaa
open Go.RowKit
set_option linter.unusedVariables false
set_option linter.unusedSimpArgs false
set_option maxRecDepth 100000
attribute [local simp] List.getElem?_cons_zero
attribute [local irreducible] awCond awCall awLoop awDraw ow retQ retC resQ Keeps
theorem Same.app (B : Nat) (M L : Mem) : Same B M (M ++ L) := ⟨by simp, fun i s _ hs => by rw [List.getElem?_append_left (List.getElem?_eq_some_iff.1 hs).1]; exact hs⟩
theorem Acc.box {α : Type} {q : Nat} {R : RecV α q} {e : TypeId} {g B : Nat} {M M' : Mem} {s s' : Slot} {v : Value} {l : List α} (h : Acc R e B M v l) (hg : g < B) (u : UpdS g (M ++ [s]) M') : Acc R e B (M'.set M.length s') v l := by
  obtain ⟨A, n, c, h1, h2, h3⟩ := h
  refine ⟨A, n, c, h1, h2, ?_⟩
  rcases h3 with h3 | ⟨id, t, h4, h5, h6⟩
  · exact .inl h3
  · have hlt := (List.getElem?_eq_some_iff.1 h6).1
    exact .inr ⟨id, t, h4, h5, by rw [List.getElem?_set_ne (by omega)]; exact u.2 _ _ (by omega) (by rw [List.getElem?_append_left hlt]; exact h6)⟩
end Go.Proofs.Ytbpaeonfebmomaa

namespace Go.Proofs.Ytbpaeonfebmomaa
open Go.RowKit
set_option linter.unusedVariables false
set_option linter.unusedSimpArgs false
set_option maxRecDepth 100000
attribute [local simp] List.getElem?_cons_zero
attribute [local irreducible] awCond awCall awLoop awDraw ow retQ retC resQ Keeps
/-- Row g alone may have turned; more may lie behind. -/
def Grow (g : Nat) (M M' : Mem) : Prop := M.length ≤ M'.length ∧ ∀ (i : Nat) s, i ≠ g → M[i]? = some s → M'[i]? = some s
theorem Grow.refl (g : Nat) (M : Mem) : Grow g M M := ⟨Nat.le_refl _, fun _ _ _ h => h⟩
theorem Grow.trans {g : Nat} {M M1 M2 : Mem} (h : Grow g M M1) (h' : Grow g M1 M2) : Grow g M M2 := ⟨Nat.le_trans h.1 h'.1, fun i s hi hs => h'.2 i s hi (h.2 i s hi hs)⟩
theorem Grow.app (g : Nat) (M L : Mem) : Grow g M (M ++ L) := ⟨by simp, fun i s _ hs => by rw [List.getElem?_append_left (List.getElem?_eq_some_iff.1 hs).1]; exact hs⟩
theorem UpdS.grow {g : Nat} {M M' : Mem} (u : UpdS g M M') : Grow g M M' := ⟨Nat.le_of_eq u.1.symm, u.2⟩
theorem Grow.same {g B : Nat} {M M' : Mem} (u : Grow g M M') (h : B ≤ g) : Same B M M' := ⟨u.1, fun i s hi hs => u.2 i s (by omega) hs⟩
theorem Grow.acc {α : Type} {q : Nat} {R : RecV α q} {e : TypeId} {g B : Nat} {M M' : Mem} {v : Value} {l : List α} (u : Grow g M M') (h : Acc R e B M v l) (hg : g < B) : Acc R e B M' v l := by
  obtain ⟨A, n, c, h1, h2, h3⟩ := h
  refine ⟨A, n, c, h1, h2, ?_⟩
  rcases h3 with h3 | ⟨id, t, h4, h5, h6⟩
  · exact .inl h3
  · exact .inr ⟨id, t, h4, h5, u.2 _ _ (by omega) h6⟩
theorem Same.grow {g B : Nat} {M M' : Mem} (h : Same B M M') (k : ∀ (i : Nat) s, i ≠ g → B ≤ i → M[i]? = some s → M'[i]? = some s) : Grow g M M' :=
  ⟨h.1, fun i s hi hs => (Nat.lt_or_ge i B).elim (fun hb => h.2 i s hb hs) fun hb => k i s hi hb hs⟩
theorem Src.lt {g B k : Nat} {M : Mem} (h : Src g B M k) : g < B := by obtain ⟨_, _, _, _, _, h, _⟩ := h; exact h
theorem nextS {M : Mem} {b g k B : Nat} (h : Src g B M k) (hb : b ≤ g) (hk : k ≤ 1099511627776) :
    Ctr Try.prog b 76 [.pointer (some ⟨g, 0, none⟩)] M fun r M' => ∃ x : Int, r = iv x ∧ 0 ≤ x ∧ x ≤ 255 ∧ Src g B M' (k + 1) ∧ UpdS g M M' := by
  obtain ⟨A, n, c, cs, h1, h2, h3, h4⟩ := h
  exact (next_s h1 hb hk (by omega)).mono fun r M' ⟨⟨x, a1, a2, a3⟩, a4, a5⟩ => ⟨x, a1, a2, a3, ⟨A, n, c, cs, a4, h2, h3, h4⟩, a5⟩
theorem fill4 (a b c d : Int) : Instr.fill (fun i => some (i, 1)) (zrow [iv 0] 4).toArray [(0, iv a), (1, iv b), (2, iv c), (3, iv d)] = some #[iv a, iv b, iv c, iv d] := by rfl
theorem fill1 {z : Value} {kd : IntKind} {n : Int} : Instr.fill (fun i => some (i, 1)) (zrow [z] 1).toArray [(0, .int kd n)] = some #[.int kd n] := by
  have := fill_int (z := z) (kd := kd) (n := n)
  simpa using this
theorem fill_ints {k : IntKind} (l : List Int) {n : Nat} (hn : l.length = n) : Instr.fill (fun i => some (i, 1)) (zrow [.int k 0] n).toArray (((l.map (Value.int k)).zipIdx 0).map fun x => (x.2, x.1)) = some (l.map (Value.int k)).toArray := by
  have h := Go.Great.fill_whole (s := 1) (by omega) (l.map (Value.int k)) (zrow [.int k 0] n).toArray (fun v hv => by obtain ⟨x, -, rfl⟩ := List.mem_map.1 hv; rfl) (by simp [zrow, hn])
  simp only [Nat.mul_one] at h
  rw [h]
  congr 2
  clear h hn
  induction l with
  | nil => rfl
  | cons a l ih => simp only [List.map_cons, List.flatMap_cons, ih, cells_int]; rfl
theorem fill6 (a b c d e f : Int) : Instr.fill (fun i => some (i, 1)) (zrow [iv 0] 6).toArray [(0, iv a), (1, iv b), (2, iv c), (3, iv d), (4, iv e), (5, iv f)] = some #[iv a, iv b, iv c, iv d, iv e, iv f] :=
  fill_ints (k := .i64) [a, b, c, d, e, f] rfl
end Go.Proofs.Ytbpaeonfebmomaa

namespace Go.Proofs.Ytbpaeonfebmomaa
open Go.RowKit
set_option linter.unusedVariables false
set_option linter.unusedSimpArgs false
set_option maxRecDepth 100000
attribute [local simp] List.getElem?_cons_zero
attribute [local irreducible] awCond awCall awLoop awDraw ow retQ retC resQ Keeps
theorem among_new {M : Mem} {b g k B : Nat} {cs : List Value} (l : List Int) {n : Nat} (hc : cs = cellsL intR l) (h : Src g B M k) (hb : b ≤ g) (hk : k + 2 ≤ 1099511627776) (h0 : 0 < n) (hn : n ≤ 100) (hl : l.length = n) (hB : B ≤ M.length) :
    Ctr Try.prog b 78 [.pointer (some ⟨g, 0, none⟩), .slice (some ⟨M.length, 0, none⟩) n n] (M ++ [.live ⟨cs, true, true, 2, 1⟩]) fun r M' => ∃ (x : Int) (k' : Nat), r = iv x ∧ x ∈ l ∧ k' ≤ k + 2 ∧ Src g B M' k' ∧ Grow g M M' := by
  subst hc
  have hg := h.lt
  have hsl : Sl intR (M ++ [.live ⟨cellsL intR l, true, true, 2, 1⟩]) (some ⟨M.length, 0, none⟩) n l := Sl.new hl
  refine (among_s (c := n) (h.app _) hb hk hsl (fun a e _ => by injection e with e; subst e; show M.length ≠ g; omega) h0 (by omega)).mono ?_
  rintro r M' ⟨x, k', rfl, hx, hk', hS, u⟩
  exact ⟨x, k', rfl, hx, hk', hS, (Grow.app g M _).trans u.grow⟩
theorem cell_hr {M : Mem} {id : Nat} {r : Row} (h : M[id]? = some (.live r)) (off : Nat) : cellAt M id off = r.cells[off]? := by simp [cellAt, h]
theorem set_get {M : Mem} {id : Nat} {s : Slot} (h : id < M.length) : (M.set id s)[id]? = some s := List.getElem?_set_self h
theorem Same.set {B id : Nat} {M : Mem} {s : Slot} (h : B ≤ id) : Same B M (M.set id s) := ⟨by simp, fun i t hi ht => by rw [List.getElem?_set_ne (by omega)]; exact ht⟩
theorem fill9 (a b c d e f g h i : Int) : Instr.fill (fun i => some (i, 1)) (zrow [iv 0] 9).toArray [(0, iv a), (1, iv b), (2, iv c), (3, iv d), (4, iv e), (5, iv f), (6, iv g), (7, iv h), (8, iv i)] = some #[iv a, iv b, iv c, iv d, iv e, iv f, iv g, iv h, iv i] :=
  fill_ints (k := .i64) [a, b, c, d, e, f, g, h, i] rfl
theorem fill8 (a b c d e f g h : Int) : Instr.fill (fun i => some (i, 1)) (zrow [iv 0] 8).toArray [(0, iv a), (1, iv b), (2, iv c), (3, iv d), (4, iv e), (5, iv f), (6, iv g), (7, iv h)] = some #[iv a, iv b, iv c, iv d, iv e, iv f, iv g, iv h] :=
  fill_ints (k := .i64) [a, b, c, d, e, f, g, h] rfl
theorem fill5 (a b c d e : Int) : Instr.fill (fun i => some (i, 1)) (zrow [iv 0] 5).toArray [(0, iv a), (1, iv b), (2, iv c), (3, iv d), (4, iv e)] = some #[iv a, iv b, iv c, iv d, iv e] :=
  fill_ints (k := .i64) [a, b, c, d, e] rfl
end Go.Proofs.Ytbpaeonfebmomaa

namespace Go.Proofs.Ytbpaeonfebmomaa
open Go.RowKit
set_option linter.unusedVariables false
set_option linter.unusedSimpArgs false
set_option maxRecDepth 100000
attribute [local simp] List.getElem?_cons_zero
attribute [local irreducible] awCond awCall awLoop awDraw ow retQ retC resQ Keeps
theorem Same.app' (B : Nat) (M L : Mem) : Same B M (M ++ L) := ⟨by simp, fun i s _ hs => by rw [List.getElem?_append_left (List.getElem?_eq_some_iff.1 hs).1]; exact hs⟩
theorem Same.tr {B : Nat} {M M1 M2 : Mem} (h : Same B M M1) (h' : Same B M1 M2) : Same B M M2 := ⟨Nat.le_trans h.1 h'.1, fun i s hi hs => h'.2 i s hi (h.2 i s hi hs)⟩
theorem Same.setb {B id : Nat} {M : Mem} {s : Slot} (h : B ≤ id) : Same B M (M.set id s) := ⟨by simp, fun i t hi ht => by rw [List.getElem?_set_ne (by omega)]; exact ht⟩
theorem Same.keepsA {M M' : Mem} (h : Same M.length M M') : Keeps M M' := by
  unfold Keeps
  exact fun i s hs => h.2 i s (List.getElem?_eq_some_iff.1 hs).1 hs
theorem Acc.set_apart {α : Type} {q : Nat} {R : RecV α q} {e : TypeId} {B i : Nat} {M : Mem} {v : Value} {l : List α} {s : Slot} (h : Acc R e B M v l) (ha : Apart v i) : Acc R e B (M.set i s) v l := by
  obtain ⟨A, n, c, rfl, h2, h3⟩ := h
  refine ⟨A, n, c, rfl, h2, ?_⟩
  rcases h3 with h3 | ⟨id, t, rfl, h5, h6⟩
  · exact .inl h3
  · have hne : i ≠ id := ha _ _ _ _ rfl rfl
    exact .inr ⟨id, t, rfl, h5, by rw [List.getElem?_set_ne hne]; exact h6⟩














theorem tempB_len {l : List Tempo} (h : inB l.length 1 8 = false) : tempB l = false := by simp [tempB, tempA, h]
theorem tempB_iff {l : List Tempo} : tempB l = true ↔ tempA l = true ∧ ∀ k, k < l.length → (posK l k).isSome = true := by
  simp only [tempB, Bool.and_eq_true, decide_eq_true_eq]
theorem tempB_no {l : List Tempo} (h : tempB l = true → False) : tempB l = false := by
  cases hb : tempB l with
  | false => rfl
  | true => exact (h hb).elim
theorem posAll_len (l : List Tempo) : (posAll l).length = l.length := by simp [posAll]
theorem posAll_el {l : List Tempo} {k : Nat} {a : Frac} (hk : k < l.length) (h : posK l k = some a) : el (posAll l) k = a := by
  rw [← el_eq (l := posAll l) (by rw [posAll_len]; exact hk)]
  simp [posAll, h]
theorem posAll_take {l : List Tempo} {k : Nat} {a : Frac} (hk : k < l.length) (h : posK l k = some a) : (posAll l).take (k + 1) = (posAll l).take k ++ [a] := by
  rw [take_el (by rw [posAll_len]; exact hk), posAll_el hk h]
theorem tempo_cellsN {M : Mem} {id off : Nat} {t : Tempo} (h : Cl M id off t.row) : cellsAt M id off 2 = some [iv t.bn, iv t.bd] :=
  cellsAt_of (fun j x hx => h j x (by
    rcases j with _ | _ | j
    · exact hx
    · exact hx
    · simp at hx)) rfl (by omega)
theorem at_build (x : Int) : Instr.fill (fun x => [(0, 1), (1, 1)][x]?) #[iv 0, iv 0] [(1, iv x)] = some #[iv 0, iv x] := by rfl
theorem cells_hrq {M : Mem} {id n : Nat} {r : Row} (h : M[id]? = some (.live r)) (hn : n = r.cells.length) : cellsAt M id 0 n = some r.cells := by
  subst hn
  simp [cellsAt, h]
/-- How far the reading of a map has come. -/
structure TP (l : List Tempo) (k : Nat) (a : Frac) : Prop where
  tempo : ∀ i, i < k → tempoB (el l i) = true
  first : 0 < k → (el l 0).bn = 0
  sort : ∀ i, i < k → 0 < i → cmpF (el l (i - 1)).beat (el l i).beat < 0
  pos : ∀ i, i < k → (posK l i).isSome = true
  at_ : posK l (k - 1) = some a
theorem TP.done {l : List Tempo} {a : Frac} (h : TP l l.length a) (hl : inB l.length 1 8 = true) : tempB l = true :=
  tempB_iff.2 ⟨tempA_iff.2 ⟨by have := inB_iff.1 hl; omega, h.tempo, h.first (by have := inB_iff.1 hl; omega), h.sort⟩, h.pos⟩
def PosR (M : Mem) (l : List Tempo) (n : Nat) (r : Value) (M' : Mem) : Prop := ∃ v, r = .tuple #[v, .bool (tempB l)] ∧ (tempB l = true → ∃ A c, v = .slice A n c ∧ Sl fracR M' A n (posAll l)) ∧ Keeps M M'
theorem PosR.no {M M' : Mem} {l : List Tempo} {n : Nat} {v : Value} (hk : Keeps M M') (e : tempB l = false) : PosR M l n (.tuple #[v, .bool false]) M' := by
  refine ⟨v, by rw [e], ?_, hk⟩
  intro h
  rw [e] at h
  cases h
theorem PosR.yes {M M' : Mem} {l : List Tempo} {n : Nat} {A : Option Addr} {c : Nat} (hk : Keeps M M') (e : tempB l = true) (hs : Sl fracR M' A n (posAll l)) : PosR M l n (.tuple #[.slice A n c, .bool true]) M' :=
  ⟨_, by rw [e], fun _ => ⟨A, c, rfl, hs⟩, hk⟩
theorem posK_on {l : List Tempo} {k : Nat} {a : Frac} (hk : 0 < k) (h : posK l (k - 1) = some a) : posK l k = if onOk (el l (k - 1)).beat (el l k).beat (el l (k - 1)).s a = true then some (onY (el l (k - 1)).beat (el l k).beat (el l (k - 1)).s a) else none := by
  obtain ⟨j, rfl⟩ : ∃ j, k = j + 1 := ⟨k - 1, by omega⟩
  simp only [Nat.add_sub_cancel] at h ⊢
  show (posK l j).bind _ = _
  rw [h]
  simp only [Option.bind_some]
  by_cases hc : (onF (el l j).beat (el l (j + 1)).beat (el l j).s a).2 = 0
  · rw [if_pos hc, if_pos (onOk_iff.2 hc), onY_eq hc]
  · rw [if_neg hc, if_neg (fun h => hc (onOk_iff.1 h))]








































































































































end Go.Proofs.Ytbpaeonfebmomaa

namespace Go.Proofs.Ytbpaeonfebmomaa
open Go.RowKit
set_option linter.unusedVariables false
set_option linter.unusedSimpArgs false
set_option maxRecDepth 100000
attribute [local simp] List.getElem?_cons_zero
attribute [local irreducible] awCond awCall awLoop awDraw ow retQ retC resQ Keeps
def askC (l : List Tempo) (b : Frac) : Int := if tempB l = true ∧ fracB b = true then (if beatB b = true then 0 else 2) else 1
def posB (l : List Tempo) (b : Frac) : Frac × Int :=
  if askC l b = 0 then
    if (onF (el l (idxT l b l.length)).beat b (el l (idxT l b l.length)).s (el (posAll l) (idxT l b l.length))).2 = 0 then
      (onF (el l (idxT l b l.length)).beat b (el l (idxT l b l.length)).s (el (posAll l) (idxT l b l.length))) else (⟨0, 0⟩, 2)
  else (⟨0, 0⟩, askC l b)
def sampB (l : List Tempo) (b : Frac) : Int × Int := if (posB l b).2 = 0 then ((posB l b).1.n / (posB l b).1.d, 0) else (0, (posB l b).2)
theorem askC_zero {l : List Tempo} {b : Frac} : askC l b = 0 ↔ tempB l = true ∧ beatB b = true := by
  unfold askC
  constructor
  · intro h
    by_cases h1 : tempB l = true ∧ fracB b = true
    · rw [if_pos h1] at h
      by_cases h2 : beatB b = true
      · exact ⟨h1.1, h2⟩
      · rw [if_neg h2] at h; omega
    · rw [if_neg h1] at h; omega
  · rintro ⟨h1, h2⟩
    rw [if_pos ⟨h1, (beatB_iff.1 h2).1⟩, if_pos h2]
theorem posB_ok {l : List Tempo} {b : Frac} (h : (posB l b).2 = 0) : fracB (posB l b).1 = true := by
  unfold posB at h ⊢
  by_cases h1 : askC l b = 0
  · rw [if_pos h1] at h ⊢
    generalize hx : onF (el l (idxT l b l.length)).beat b (el l (idxT l b l.length)).s (el (posAll l) (idxT l b l.length)) = x at h ⊢
    by_cases h2 : x.2 = 0
    · rw [if_pos h2]
      rw [← hx] at h2 ⊢
      exact onF_ok h2
    · rw [if_neg h2] at h
      cases h
  · rw [if_neg h1] at h
    exact absurd h h1


















































theorem Tempo.fill0 : Instr.fill (fun x => [(0, 1), (1, 1)][x]?) #[iv 0, iv 0] [] = some #[iv 0, iv 0] := by rfl
/-- A value is stored in a whole box and loaded again at the return. -/
theorem ret_box {M M1 L : Mem} {b g : Nat} {cs vs : List Value} {t : Bool} {e : TypeId} {z n : Nat} {w : Value} (hg : M1[g]? = some (.live ⟨cs, true, t, e, z⟩)) (hk : Keeps M M1) (hb : M.length ≤ g) (hl : vs.length = cs.length) (hn : n = cs.length) (hw : Value.agg vs.toArray = w ∧ True) (h1 : vs.all oneV = true := by simp) (hbb : b ≤ g := by omega) :
    ow (putCells b (M1 ++ L) g 0 vs) fun M' => ow (cellsAt M' g 0 n) fun cs => Value.agg cs.toArray = w ∧ Keeps M M' := by
  have hlt := (List.getElem?_eq_some_iff.1 hg).1
  have hg' : (M1 ++ L)[g]? = some (.live ⟨cs, true, t, e, z⟩) := by rw [List.getElem?_append_left hlt]; exact hg
  rw [put_whole hg' hbb hl h1, ow_some, cells_hrq (List.getElem?_set_self (by rw [List.length_append]; omega)) (by rw [hn]; exact hl.symm), ow_some]
  exact ⟨hw.1, keeps_set (hk.app _) hb⟩































































end Go.Proofs.Ytbpaeonfebmomaa

namespace Go.Proofs.Ytbpaeonfebmomaa
open Go.RowKit
set_option linter.unusedVariables false
def upG (γ : Nat → Value) (k : Nat) (v : Value) : Nat → Value := fun j => if j = k then v else γ j
@[simp] theorem upG_same (γ : Nat → Value) (k : Nat) (v : Value) : upG γ k v k = v := if_pos rfl
theorem upG_ne {γ : Nat → Value} {j k : Nat} {v : Value} (h : j ≠ k) : upG γ k v j = γ j := if_neg h
/-- No temporary is set twice. -/
def dstOnce (ops : Array Oper) : Bool := (List.range ops.size).all fun k => (List.range ops.size).all fun j => decide (j = k) || (dstOf ops j).isNone || dstOf ops j != dstOf ops k
theorem dstOnce_spec {ops : Array Oper} (h : dstOnce ops = true) {j k : Nat} {t : Nat} (hj : dstOf ops j = some t) (hk : dstOf ops k = some t) : j = k := by
  have lt : ∀ i, dstOf ops i = some t → i < ops.size := by
    intro i hi
    unfold dstOf at hi
    obtain ⟨o, ho, -⟩ := Option.bind_eq_some_iff.1 hi
    exact (Array.getElem?_eq_some_iff.1 ho).1
  have h1 := List.all_eq_true.1 h k (List.mem_range.2 (lt k hk))
  have h2 := List.all_eq_true.1 h1 j (List.mem_range.2 (lt j hj))
  rw [hj, hk] at h2
  simpa using h2
/-- What the temporaries hold: what has been done gave its value, the others are as they were. -/
structure TS (ops : Array Oper) (T0 : List (Nat × Value)) (X : Nat → Bool) (γ : Nat → Value) (T : List (Nat × Value)) : Prop where
  done : ∀ j d, X j = true → dstOf ops j = some d → look T d = some (γ j)
  frame : ∀ t, (∀ j, X j = true → dstOf ops j ≠ some t) → look T t = look T0 t
def noDst (ops : Array Oper) (t : Nat) : Bool := (List.range ops.size).all fun j => decide (dstOf ops j ≠ some t)
theorem TS.frame' {ops : Array Oper} {T0 T : List (Nat × Value)} {X : Nat → Bool} {γ : Nat → Value} (h : TS ops T0 X γ T) (t : Nat) (hn : noDst ops t = true) : look T t = look T0 t :=
  h.frame t fun j _ hj => by
    have hl : j < ops.size := by
      unfold dstOf at hj
      obtain ⟨o, ho, -⟩ := Option.bind_eq_some_iff.1 hj
      exact (Array.getElem?_eq_some_iff.1 ho).1
    have := List.all_eq_true.1 hn j (List.mem_range.2 hl)
    exact (of_decide_eq_true this) hj
/-- What has been done is closed under what must come ahead. -/
def Closed (ops : List Oper) (X : Nat → Bool) : Prop := ∀ k o, X k = true → ops[k]? = some o → ∀ e ∈ o.after.toList, Region.binds .any e = true → X e.on = true
def edge (ops : List Oper) (k j : Nat) : Bool := match ops[k]? with
  | some o => o.after.toList.any fun e => Region.binds .any e && decide (e.on = j)
  | none => false
theorem Closed.at_ {ops : List Oper} {X : Nat → Bool} (h : Closed ops X) {k : Nat} (j : Nat) (hk : X k = true) (he : edge ops k j = true) : X j = true := by
  unfold edge at he
  split at he
  · rename_i o ho
    obtain ⟨e, h1, h2⟩ := List.any_eq_true.1 he
    simp only [Bool.and_eq_true, decide_eq_true_eq] at h2
    have := h k o hk ho e h1 h2.1
    rwa [h2.2] at this
  · cases he
theorem edge_ahead {ops : List Oper} {X : Nat → Bool} {k : Nat} {o : Oper} (ho : ops[k]? = some o) (ha : ∀ e ∈ o.after.toList, Region.binds .any e = true → X e.on = true) (j : Nat) (he : edge ops k j = true) : X j = true := by
  unfold edge at he
  rw [ho] at he
  obtain ⟨e, h1, h2⟩ := List.any_eq_true.1 he
  simp only [Bool.and_eq_true, decide_eq_true_eq] at h2
  have := ha e h1 h2.1
  rwa [h2.2] at this
/-- The same, with guarded operations. -/
theorem awDraw_GG {P : Program} {b : Nat} {ops : List Oper} {Q : St → Prop} {S : St} (G : (Nat → Bool) → (Nat → Value) → Mem → Prop) (h1 : P.follows .mixedOrders = true) (h2 : drawBackG ⟨ops⟩ = true) (h3 : dstOnce ⟨ops⟩ = true)
    (h0 : ∀ γ, G (fun _ => false) γ S.M)
    (hstep : ∀ X γ T M k o (K : Value → Mem → Prop), Closed ops X → TS ⟨ops⟩ S.T X γ T → G X γ M → ops[k]? = some o → X k = false → (∀ e ∈ o.after.toList, Region.binds .any e = true → X e.on = true) → (∀ v M', G (upX X k) (upG γ k v) M' → K v M') → awG ⟨ops⟩ o ⟨S.n, T, M⟩ (sOp P false b o ⟨S.n, T, M⟩ K) (K undef M))
    (hend : ∀ X γ T M, (∀ k, k < ops.length → X k = true) → TS ⟨ops⟩ S.T X γ T → G X γ M → Q ⟨S.n, T, M⟩) : awDraw P b ⟨ops⟩ Q S := by
  refine awDraw_IG (fun X S' => S'.n = S.n ∧ Closed ops X ∧ ∃ γ, TS ⟨ops⟩ S.T X γ S'.T ∧ G X γ S'.M) h1 h2 ⟨rfl, fun k o h => (by cases h), fun _ => undef, ⟨(fun j d h => by cases h), fun t _ => rfl⟩, h0 _⟩ ?_ ?_
  · rintro X ⟨n, T, M⟩ k o ⟨hn, hC, γ, hT, hG⟩ ho hX ha
    simp only at hn hT hG
    subst hn
    have key : ∀ (v : Value) (M' : Mem), G (upX X k) (upG γ k v) M' → ((St.put ⟨S.n, T, M'⟩ o.dst v).n = S.n ∧ Closed ops (upX X k) ∧ ∃ γ, TS ⟨ops⟩ S.T (upX X k) γ (St.put ⟨S.n, T, M'⟩ o.dst v).T ∧ G (upX X k) γ (St.put ⟨S.n, T, M'⟩ o.dst v).M) := by
      intro v M' hG'
      refine ⟨by cases o.dst <;> rfl, fun i o' hi ho' e he hb => ?_, upG γ k v, ?_, by cases o.dst <;> exact hG'⟩
      · by_cases e1 : e.on = k
        · rw [e1]; simp
        · rw [upX_ne e1]
          by_cases e2 : i = k
          · subst e2
            rw [ho] at ho'
            injection ho' with ho'
            subst ho'
            exact ha e he hb
          · rw [upX_ne e2] at hi
            exact hC i o' hi ho' e he hb
      have hdk : dstOf ⟨ops⟩ k = o.dst := by simp [dstOf, ho]
      refine ⟨fun j d hj hd => ?_, fun t ht => ?_⟩
      · by_cases e : j = k
        · subst e
          rw [hdk] at hd
          rw [hd]
          simp [St.put]
        · rw [upX_ne e] at hj
          rw [upG_ne e]
          have := hT.done j d hj hd
          cases hod : o.dst with
          | none => exact this
          | some d' =>
            simp only [St.put, look]
            rw [if_neg (fun e' => e (dstOnce_spec h3 hd (by rw [hdk, hod, e'])))]
            exact this
      · have hf := hT.frame t fun j hj => ht j (by
          by_cases e : j = k
          · subst e; simp
          · rw [upX_ne e]; exact hj)
        cases hod : o.dst with
        | none => exact hf
        | some d' =>
          have := ht k (by simp)
          rw [hdk, hod] at this
          simp only [St.put, look]
          rw [if_neg (fun e' => this (by rw [e']))]
          exact hf
    exact hstep X γ T M k o _ hC hT hG ho hX ha key
  · rintro X ⟨n, T, M⟩ hX ⟨hn, hC, γ, hT, hG⟩
    simp only at hn hT hG
    subst hn
    exact hend X γ T M hX hT hG
theorem awDraw_G {P : Program} {b : Nat} {ops : List Oper} {Q : St → Prop} {S : St} (G : (Nat → Bool) → (Nat → Value) → Mem → Prop) (h1 : P.follows .mixedOrders = true) (h2 : drawBack ⟨ops⟩ = true) (h3 : dstOnce ⟨ops⟩ = true)
    (h0 : ∀ γ, G (fun _ => false) γ S.M)
    (hstep : ∀ X γ T M k o (K : Value → Mem → Prop), Closed ops X → TS ⟨ops⟩ S.T X γ T → G X γ M → ops[k]? = some o → X k = false → (∀ e ∈ o.after.toList, Region.binds .any e = true → X e.on = true) → (∀ v M', G (upX X k) (upG γ k v) M' → K v M') → sOp P false b o ⟨S.n, T, M⟩ K)
    (hend : ∀ X γ T M, (∀ k, k < ops.length → X k = true) → TS ⟨ops⟩ S.T X γ T → G X γ M → Q ⟨S.n, T, M⟩) : awDraw P b ⟨ops⟩ Q S := by
  refine awDraw_GG G h1 (drawBack_G h2) h3 h0 (fun X γ T M k o K hC hT hG ho hX ha hK => ?_) hend
  unfold awG
  rw [(drawBack_spec h2 k o (by simpa using ho)).1]
  exact hstep X γ T M k o K hC hT hG ho hX ha hK
end Go.Proofs.Ytbpaeonfebmomaa

namespace Go.Proofs.Ytbpaeonfebmomaa
open Go.RowKit
set_option linter.unusedVariables false
set_option linter.unusedSimpArgs false
set_option maxRecDepth 100000
attribute [local simp] List.getElem?_cons_zero
attribute [local irreducible] awCond awCall awLoop awDraw ow retQ retC resQ Keeps
theorem mkF_small {n d : Int} (h1 : -1000000000 ≤ n) (h2 : n ≤ 1000000000) (h3 : 1 ≤ d) (h4 : d ≤ 1000000) : (mkF n d).2 = 0 := by
  unfold mkF
  rw [if_neg (by omega)]
  have e1 : n.natAbs / n.natAbs.gcd d.natAbs ≤ n.natAbs := Nat.div_le_self _ _
  have e2 : d.natAbs / n.natAbs.gcd d.natAbs ≤ d.natAbs := Nat.div_le_self _ _
  rw [if_neg (by omega)]
theorem mkF_fst {n d : Int} (h0 : 0 ≤ n) (h2 : n ≤ 1000000000) (h3 : 1 ≤ d) (h4 : d ≤ 1000000) : ∃ g a b : Int, 0 < g ∧ n = g * a ∧ d = g * b ∧ 0 ≤ a ∧ 1 ≤ b ∧ (mkF n d).1 = ⟨a, b⟩ := by
  have e1 : n.natAbs / n.natAbs.gcd d.natAbs ≤ n.natAbs := Nat.div_le_self _ _
  have e2 : d.natAbs / n.natAbs.gcd d.natAbs ≤ d.natAbs := Nat.div_le_self _ _
  have hg : 0 < n.natAbs.gcd d.natAbs := Nat.gcd_pos_of_pos_right _ (by omega)
  unfold mkF
  rw [if_neg (by omega), if_neg (by omega)]
  clear e1 e2
  generalize hgg : n.natAbs.gcd d.natAbs = g at hg
  obtain ⟨a, ha⟩ : g ∣ n.natAbs := by rw [← hgg]; exact Nat.gcd_dvd_left _ _
  obtain ⟨b, hb⟩ : g ∣ d.natAbs := by rw [← hgg]; exact Nat.gcd_dvd_right _ _
  rw [ha, hb, Nat.mul_div_cancel_left _ hg, Nat.mul_div_cancel_left _ hg]
  have hn : ¬ n < 0 := by omega
  have hd : ¬ d < 0 := by omega
  have hb0 : 0 < b := by
    rcases Nat.eq_zero_or_pos b with h | h
    · rw [h] at hb; omega
    · exact h
  refine ⟨g, a, b, by omega, by rw [← Int.natCast_mul, ← ha]; omega, by rw [← Int.natCast_mul, ← hb]; omega, by omega, by omega, ?_⟩
  simp [hn, hd]
/-- A small beat. -/
structure SmallB (m : Int) (f : Frac) : Prop where
  frac : fracB f = true
  pos : 0 ≤ f.n
  le : f.n ≤ m * f.d
  den : f.d ≤ 8
theorem small_mk {m n d : Int} (hm : 0 ≤ m) (hm' : m ≤ 10) (h1 : 0 ≤ n) (h2 : n ≤ m * d) (h3 : 1 ≤ d) (h4 : d ≤ 8) : SmallB m (mkF n d).1 := by
  have hmd : m * d ≤ 10 * 8 := Int.mul_le_mul hm' h4 (by omega) (by omega)
  obtain ⟨g, a, b, hg, ea, eb, ha, hb, e⟩ := mkF_fst h1 (by omega) h3 (by omega)
  have hok := mkF_ok (mkF_small (n := n) (d := d) (by omega) (by omega) h3 (by omega))
  rw [e] at hok ⊢
  refine ⟨hok, ha, ?_, ?_⟩
  · show a ≤ m * b
    have h : g * a ≤ g * (m * b) := by
      have : g * (m * b) = m * (g * b) := by rw [← Int.mul_assoc, Int.mul_comm g m, Int.mul_assoc]
      rw [this, ← ea, ← eb]
      exact h2
    exact Int.le_of_mul_le_mul_left h hg
  · show b ≤ 8
    have : 1 * b ≤ g * b := Int.mul_le_mul_of_nonneg_right (by omega) (by omega)
    omega
set_option maxHeartbeats 2000000 in
theorem l02Beat_a {M : Mem} {b g k B : Nat} (m : Int) (hm : 0 ≤ m) (hm' : m ≤ 10) (h : Src g B M k) (hb : b ≤ g) (hB : B ≤ M.length) (hk : k ≤ 1000000) :
    Ctr Try.prog b 77 [.pointer (some ⟨g, 0, none⟩), iv m] M fun r M' => ∃ (f : Frac) (k' : Nat), r = f.v ∧ SmallB m f ∧ k' ≤ k + 4 ∧ Src g B M' k' ∧ Grow g M M' := by
  have hg := h.lt
  first | (refine ctr_fn Try.func77 rfl Try.ntmps77 Try.results77 rfl rfl (by simp) ?_) | (refine ctr_fnC Try.func77 rfl Try.ntmps77 Try.results77 rfl (by simp) ?_)
  simp (disch := omega) [fill9]
  have hc := among_new (b := b) (M := M ++ [.live ⟨[iv 0, iv 0], true, true, 51, 2⟩]) (n := 9) [1, 1, 2, 2, 3, 4, 4, 6, 8] rfl (h.app _) hb (by omega) (by omega) (by omega) rfl (by simp; omega)
  rw [List.append_assoc, List.length_append] at hc
  refine awCall_ctr hc ?_
  rintro r M1 ⟨d, k1, rfl, hd, hk1, h1, g1⟩
  have r1 : M1[M.length]? = some (.live ⟨[iv 0, iv 0], true, true, 51, 2⟩) := g1.2 _ _ (by omega) getElem?_snoc_eq
  have n1 := g1.1
  simp only [List.length_append, List.length_cons, List.length_nil] at n1
  have hd1 : 1 ≤ d ∧ d ≤ 8 := by simp at hd; omega
  have hmd : 0 ≤ m * d ∧ m * d ≤ 10 * 8 := ⟨Int.mul_nonneg hm (by omega), Int.mul_le_mul hm' hd1.2 (by omega) (by omega)⟩
  simp (disch := omega) [wrap_in]
  refine awCall_ctr (h1.pick (m * d + 1) hb (by omega) (by omega)) ?_
  rintro r M2 ⟨x, k2, rfl, x0, x1, hk2, h2, u2⟩
  have n2 := u2.1
  have r2 := u2.2 _ _ (show M.length ≠ g by omega) r1
  refine awCall_det' (MakeFrac_s x d (by omega) (by omega) (by omega) (by omega)) (by omega) ?_
  have hS : SmallB m (mkF x d).1 := small_mk hm hm' x0 (by omega) hd1.1 hd1.2
  generalize (mkF x d).1 = f at hS ⊢
  have g2 : Grow g M M2 := ((Grow.app g M _).trans g1).trans u2.grow
  have rr : ∀ L : Mem, (M2 ++ L)[M.length]? = some (.live ⟨[iv 0, iv 0], true, true, 51, 2⟩) := fun L => by rw [List.getElem?_append_left (List.getElem?_eq_some_iff.1 r2).1]; exact r2
  simp (disch := omega)
  have l2 := (List.getElem?_eq_some_iff.1 (rr [.live ⟨[iv f.n, iv f.d], true, true, 51, 2⟩])).1
  rw [put_whole (vs := [iv f.n, iv f.d]) (rr _) (by omega) rfl (by simp), ow_some, cells_hr (r := ⟨[iv f.n, iv f.d], true, true, 51, 2⟩) (n := 2) (set_get l2) rfl, ow_some]
  have g3 := g2.trans (Grow.app g M2 [.live ⟨[iv f.n, iv f.d], true, true, 51, 2⟩])
  refine ⟨f, rfl, hS, k2, by omega, (h2.app _).same (Same.set hB), by simpa using g3.1, fun i s hi hs => ?_⟩
  rw [List.getElem?_set_ne (by have := (List.getElem?_eq_some_iff.1 hs).1; omega)]
  exact g3.2 i s hi hs
theorem Acc.keep_from {α : Type} {q : Nat} {R : RecV α q} {e : TypeId} {B : Nat} {M M' : Mem} {v : Value} {l : List α} (h : Acc R e B M v l) (hm : ∀ (i : Nat) s, B ≤ i → M[i]? = some s → M'[i]? = some s) : Acc R e B M' v l := by
  obtain ⟨A, n, c, h1, h2, h3⟩ := h
  refine ⟨A, n, c, h1, h2, ?_⟩
  rcases h3 with h3 | ⟨id, t, h4, h5, h6⟩
  · exact .inl h3
  · exact .inr ⟨id, t, h4, h5, hm _ _ h5 h6⟩
def PV6 (lo g : Nat) (v : Value) (a : Frac) (j : Nat) (u : Value) : Prop :=
  match j with
  | 0 => u = .pointer (some ⟨lo + 1, 0, none⟩)
  | 1 => u = v
  | 2 => u = a.v
  | 3 => u = .pointer (some ⟨g, 0, none⟩)
  | 5 => ∃ x : Int, u = iv x
  | 6 => ∃ x : Int, u = .agg #[iv a.n, iv a.d, iv x]
  | 9 => u = .pointer (some ⟨lo + 1, 0, none⟩)
  | _ => True
def am8 : List Int := [1, 7, 12, 24, 48, 60, 100, 1000]


















theorem upX_t {X : Nat → Bool} {j k : Nat} (h : upX X k j = true) (e : j ≠ k) : X j = true := by rwa [upX_ne e] at h
theorem upX_no {X : Nat → Bool} {j k : Nat} (h : upX X k j = false) : j ≠ k ∧ X j = false := by
  by_cases e : j = k
  · subst e; simp at h
  · exact ⟨e, by rwa [upX_ne e] at h⟩









































theorem tm_build0 : Instr.fill (fun x => [(0, 1)][x]?) #[.slice none 0 0] [] = some #[.slice none 0 0] := by rfl
theorem at_build1 (x : Int) : Instr.fill (fun x => [(0, 1), (1, 1)][x]?) #[iv 0, iv 0] [(1, iv x)] = some #[iv 0, iv x] := by rfl
theorem fr_build2 (x y : Int) : Instr.fill (fun x => [(0, 1), (1, 1)][x]?) #[iv 0, iv 0] [(0, iv x), (1, iv y)] = some #[iv x, iv y] := by rfl
theorem tb_build (x y z : Int) : Instr.fill (fun x => [(0, 2), (2, 1)][x]?) #[iv 0, iv 0, iv 0] [(0, .agg #[iv x, iv y]), (1, iv z)] = some #[iv x, iv y, iv z] := by rfl












































































































































































































end Go.Proofs.Ytbpaeonfebmomaa

namespace Go.Proofs.Ytbpaeonfebmomaa
open Go.RowKit
set_option linter.unusedVariables false
set_option linter.unusedSimpArgs false
set_option maxRecDepth 100000
attribute [local simp] List.getElem?_cons_zero
attribute [local irreducible] awCond awCall awLoop awDraw ow retQ retC resQ Keeps
section
variable {α : Type} {k : Nat}
/-- A box beside a source, one of whose fields is set. -/
theorem put_field {b g B kk : Nat} {M0 M : Mem} {id p : Nat} {vs cs : List Value} {t : Bool} {e : TypeId} {z : Nat} (hr : M[id]? = some (.live ⟨cs, true, t, e, z⟩)) (hb : b ≤ id) (hp : p + vs.length ≤ cs.length) (h1 : vs.all oneV = true) (hB : B ≤ id) (h : Src g B M kk) (h0 : M0.length ≤ id) (hg : Grow g M0 M) :
    ∃ M', putCells b M id p vs = some M' ∧ M'[id]? = some (.live ⟨splice cs p vs, true, t, e, z⟩) ∧ Src g B M' kk ∧ Grow g M0 M' ∧ M'.length = M.length ∧ ∀ (i : Nat) s, i ≠ id → M[i]? = some s → M'[i]? = some s :=
  ⟨_, put_splice hr hb hp h1, set_get (List.getElem?_eq_some_iff.1 hr).1, h.same (Same.set hB), ⟨by simpa using hg.1, fun i s hi hs => by rw [List.getElem?_set_ne (by have := (List.getElem?_eq_some_iff.1 hs).1; omega)]; exact hg.2 i s hi hs⟩, by simp,
    fun i s hi hs => by rw [List.getElem?_set_ne (Ne.symm hi)]; exact hs⟩
end
end Go.Proofs.Ytbpaeonfebmomaa

namespace Go.Proofs.Ytbpaeonfebmomaa
open Go.RowKit
set_option linter.unusedVariables false
set_option linter.unusedSimpArgs false
set_option maxRecDepth 100000
attribute [local simp] List.getElem?_cons_zero
attribute [local irreducible] awCond awCall awLoop awDraw ow retQ retC resQ Keeps
theorem drawn_ok {f e : Frac} {k u o : Int} (hf : SmallB 6 f) (he : SmallB 3 e) (h0 : e.n ≠ 0) (hk : 0 ≤ k ∧ k ≤ 127) (hu : 1 ≤ u ∧ u ≤ 127) (ho : 0 ≤ o ∧ o ≤ 15) : noteB ⟨f.n, f.d, e.n, e.d, k, u, o⟩ = true := by
  have f1 := (fracB_iff.1 hf.frac).1.1
  have e1 := (fracB_iff.1 he.frac).1.1
  have hfn := hf.le
  have hen := he.le
  have hfd := hf.den
  have hed := he.den
  have fp := hf.pos
  have ep := he.pos
  refine noteB_iff.2 ⟨beatB_iff.2 ⟨hf.frac, fp, show f.n ≤ 1000 * f.d by omega⟩, beatB_iff.2 ⟨he.frac, ep, show e.n ≤ 1000 * e.d by omega⟩, h0, ?_, hk, hu, ho⟩
  show (addF f e).2 = 0
  unfold addF
  rw [if_pos ⟨hf.frac, he.frac⟩]
  have p1 : f.n * e.d ≤ 48 * 8 := Int.mul_le_mul (by omega) hed (by omega) (by omega)
  have p2 : e.n * f.d ≤ 24 * 8 := Int.mul_le_mul (by omega) hfd (by omega) (by omega)
  have p3 : f.d * e.d ≤ 8 * 8 := Int.mul_le_mul hfd hed (by omega) (by omega)
  have q1 : 0 ≤ f.n * e.d := Int.mul_nonneg fp (by omega)
  have q2 : 0 ≤ e.n * f.d := Int.mul_nonneg ep (by omega)
  have q3 : 0 < f.d * e.d := Int.mul_pos (by omega) (by omega)
  exact mkF_small (by omega) (by omega) (by omega) (by omega)
theorem n_build (x y : Int) : Instr.fill (fun x => [(0, 2), (2, 2), (4, 1), (5, 1), (6, 1)][x]?) #[iv 0, iv 0, iv 0, iv 0, iv 0, iv 0, iv 0] [(0, .agg #[iv x, iv y])] = some #[iv x, iv y, iv 0, iv 0, iv 0, iv 0, iv 0] := by rfl
set_option maxHeartbeats 2000000 in
theorem l18DrawNote_a {M : Mem} {b g k B : Nat} (h : Src g B M k) (hb : b ≤ g) (hB : B ≤ M.length) (hk : k ≤ 10000) :
    Ctr Try.prog b 51 [.pointer (some ⟨g, 0, none⟩), iv 6] M fun r M' => ∃ (n : Note) (k' : Nat), r = n.v ∧ noteB n = true ∧ k' ≤ k + 20 ∧ Src g B M' k' ∧ Grow g M M' := by
  have hg := h.lt
  first | (refine ctr_fn Try.func51 rfl Try.ntmps51 Try.results51 rfl rfl (by simp) ?_) | (refine ctr_fnC Try.func51 rfl Try.ntmps51 Try.results51 rfl (by simp) ?_)
  simp
  refine awCall_ctr (l02Beat_a 6 (by omega) (by omega) (h.app _) hb (by simp; omega) (by omega)) ?_
  rintro _ M1 ⟨f, k1, rfl, hf, hk1, h1, g1⟩
  have n1 := g1.1
  have r1 := g1.2 _ _ (show M.length ≠ g by omega) getElem?_snoc_eq
  simp only [List.length_append, List.length_cons, List.length_nil] at n1
  have g1' : Grow g M M1 := (Grow.app g M _).trans g1
  simp (disch := omega) [n_build]
  have g2 : Grow g M (M1 ++ [Slot.live ⟨[iv f.n, iv f.d, iv 0, iv 0, iv 0, iv 0, iv 0], true, true, 53, 7⟩]) := g1'.trans (Grow.app g M1 _)
  have h2 := h1.app [Slot.live ⟨[iv f.n, iv f.d, iv 0, iv 0, iv 0, iv 0, iv 0], true, true, 53, 7⟩]
  have r2 : (M1 ++ [Slot.live ⟨[iv f.n, iv f.d, iv 0, iv 0, iv 0, iv 0, iv 0], true, true, 53, 7⟩])[M1.length]? = some (Slot.live ⟨[iv f.n, iv f.d, iv 0, iv 0, iv 0, iv 0, iv 0], true, true, 53, 7⟩) := getElem?_snoc_eq
  obtain ⟨M2, hM2⟩ : ∃ M' : Mem, M' = M1 ++ [Slot.live ⟨[iv f.n, iv f.d, iv 0, iv 0, iv 0, iv 0, iv 0], true, true, 53, 7⟩] := ⟨_, rfl⟩
  have rr2 : M2[M.length]? = some (Slot.live ⟨[iv 0, iv 0, iv 0, iv 0, iv 0, iv 0, iv 0], true, true, 53, 7⟩) := by rw [hM2, List.getElem?_append_left (List.getElem?_eq_some_iff.1 r1).1]; exact r1
  rw [← hM2] at g2 h2 r2 ⊢
  have n2 : M2.length = M1.length + 1 := by rw [hM2]; simp
  clear hM2 h1 r1 g1 g1'
  generalize hq : M1.length = q at *
  have hMq : M.length < q := by omega
  clear hq
  refine awCall_ctr (l02Beat_a 3 (by omega) (by omega) h2 hb (by omega) (by omega)) ?_
  rintro _ M3 ⟨e, k3, rfl, he, hk3, h3, g3⟩
  have r3 := g3.2 _ _ (by omega) r2
  have rr3 := g3.2 _ _ (by omega) rr2
  have n3 := g3.1
  have g3' := g2.trans g3
  obtain ⟨M4, p4, r4, h4, g4, n4, u4⟩ := put_field (b := b) (vs := [iv e.n, iv e.d]) (p := 2) r3 (by omega) (by simp) (by simp) (by omega) h3 (by omega) g3'
  have rr4 := u4 _ _ (by omega) rr3
  simp only [splice_cons, splice_nil, List.set_cons_succ, List.set_cons_zero] at r4
  refine ⟨rfl, ?_⟩
  rw [show e.v.cells.toList = [iv e.n, iv e.d] from rfl, p4, ow_some, cell_hr r4 2]
  simp
  by_cases z0 : e.n = 0
  · have e14 : SmallB 3 ⟨1, 4⟩ := ⟨by decide, by decide, by decide, by decide⟩
    obtain ⟨M5, p5, r5, h5, g5, n5, u5⟩ := put_field (b := b) (vs := [iv 1, iv 4]) (p := 2) r4 (by omega) (by simp) (by simp) (by omega) h4 (by omega) g4
    simp only [splice_cons, splice_nil, List.set_cons_succ, List.set_cons_zero] at r5
    have rr5 := u5 _ _ (by omega) rr4
    simp [z0, fr_build2, p5]
    refine awCall_ctr (h5.pick 25 hb (by omega) (by omega)) ?_
    rintro _ N1 ⟨ky, c1, rfl, ky0, ky1, hc1, i1, v1⟩
    have rN1 := v1.2 _ _ (by omega) r5
    have rrN1 := v1.2 _ _ (by omega) rr5
    have gN1 := g5.trans v1.grow
    have lN1 := v1.1
    obtain ⟨N2, pN2, rN2, i2, gN2, lN2, w2⟩ := put_field (b := b) (vs := [iv (48 + ky)]) (p := 4) rN1 (by omega) (by simp) (by simp) (by omega) i1 (by omega) gN1
    have rrN2 := w2 _ _ (by omega) rrN1
    simp only [splice_cons, splice_nil, List.set_cons_succ, List.set_cons_zero] at rN2
    simp (disch := omega) [wrap_in, pN2]
    refine awCall_ctr (i2.pick 127 hb (by omega) (by omega)) ?_
    rintro _ N3 ⟨vy, c3, rfl, vy0, vy1, hc3, i3, v3⟩
    have rN3 := v3.2 _ _ (by omega) rN2
    have rrN3 := v3.2 _ _ (by omega) rrN2
    have gN3 := gN2.trans v3.grow
    have lN3 := v3.1
    obtain ⟨N4, pN4, rN4, i4, gN4, lN4, w4⟩ := put_field (b := b) (vs := [iv (1 + vy)]) (p := 5) rN3 (by omega) (by simp) (by simp) (by omega) i3 (by omega) gN3
    have rrN4 := w4 _ _ (by omega) rrN3
    simp only [splice_cons, splice_nil, List.set_cons_succ, List.set_cons_zero] at rN4
    simp (disch := omega) [wrap_in, pN4, fill5]
    refine awCall_ctr (among_new (b := b) (M := N4) (n := 5) [0, 0, 0, 1, 15] rfl i4 hb (by omega) (by omega) (by omega) rfl (by omega)) ?_
    rintro _ N5 ⟨oy, c5, rfl, hoy, hc5, i5, g5⟩
    have rN5 := g5.2 _ _ (by omega) rN4
    have rrN5 := g5.2 _ _ (by omega) rrN4
    have gN5 := gN4.trans g5
    have lN5 := g5.1
    obtain ⟨N6, pN6, rN6, i6, gN6, lN6, w6⟩ := put_field (b := b) (vs := [iv oy]) (p := 6) rN5 (by omega) (by simp) (by simp) (by omega) i5 (by omega) gN5
    have rrN6 := w6 _ _ (by omega) rrN5
    simp only [splice_cons, splice_nil, List.set_cons_succ, List.set_cons_zero] at rN6
    obtain ⟨N7, pN7, rN7, i7, gN7, lN7, w7⟩ := put_field (b := b) (vs := [iv f.n, iv f.d, iv 1, iv 4, iv (48 + ky), iv (1 + vy), iv oy]) (p := 0) rrN6 (by omega) (by simp) (by simp) (by omega) i6 (by omega) gN6
    simp only [splice_cons, splice_nil, List.set_cons_succ, List.set_cons_zero] at rN7
    simp (disch := omega) [pN6, cells_hr (n := 7) rN6 rfl, pN7, cells_hr (n := 7) rN7 rfl]
    have hoy' : 0 ≤ oy ∧ oy ≤ 15 := by simp at hoy; omega
    exact ⟨⟨f.n, f.d, 1, 4, 48 + ky, 1 + vy, oy⟩, ⟨rfl, rfl, rfl, rfl, rfl, rfl, rfl⟩, drawn_ok (e := ⟨1, 4⟩) hf e14 (by decide) (by omega) (by omega) hoy', c5, by omega, i7, gN7⟩
  · simp [z0]
    refine awCall_ctr (h4.pick 25 hb (by omega) (by omega)) ?_
    rintro _ N1 ⟨ky, c1, rfl, ky0, ky1, hc1, i1, v1⟩
    have rN1 := v1.2 _ _ (by omega) r4
    have rrN1 := v1.2 _ _ (by omega) rr4
    have gN1 := g4.trans v1.grow
    have lN1 := v1.1
    obtain ⟨N2, pN2, rN2, i2, gN2, lN2, w2⟩ := put_field (b := b) (vs := [iv (48 + ky)]) (p := 4) rN1 (by omega) (by simp) (by simp) (by omega) i1 (by omega) gN1
    have rrN2 := w2 _ _ (by omega) rrN1
    simp only [splice_cons, splice_nil, List.set_cons_succ, List.set_cons_zero] at rN2
    simp (disch := omega) [wrap_in, pN2]
    refine awCall_ctr (i2.pick 127 hb (by omega) (by omega)) ?_
    rintro _ N3 ⟨vy, c3, rfl, vy0, vy1, hc3, i3, v3⟩
    have rN3 := v3.2 _ _ (by omega) rN2
    have rrN3 := v3.2 _ _ (by omega) rrN2
    have gN3 := gN2.trans v3.grow
    have lN3 := v3.1
    obtain ⟨N4, pN4, rN4, i4, gN4, lN4, w4⟩ := put_field (b := b) (vs := [iv (1 + vy)]) (p := 5) rN3 (by omega) (by simp) (by simp) (by omega) i3 (by omega) gN3
    have rrN4 := w4 _ _ (by omega) rrN3
    simp only [splice_cons, splice_nil, List.set_cons_succ, List.set_cons_zero] at rN4
    simp (disch := omega) [wrap_in, pN4, fill5]
    refine awCall_ctr (among_new (b := b) (M := N4) (n := 5) [0, 0, 0, 1, 15] rfl i4 hb (by omega) (by omega) (by omega) rfl (by omega)) ?_
    rintro _ N5 ⟨oy, c5, rfl, hoy, hc5, i5, g5⟩
    have rN5 := g5.2 _ _ (by omega) rN4
    have rrN5 := g5.2 _ _ (by omega) rrN4
    have gN5 := gN4.trans g5
    have lN5 := g5.1
    obtain ⟨N6, pN6, rN6, i6, gN6, lN6, w6⟩ := put_field (b := b) (vs := [iv oy]) (p := 6) rN5 (by omega) (by simp) (by simp) (by omega) i5 (by omega) gN5
    have rrN6 := w6 _ _ (by omega) rrN5
    simp only [splice_cons, splice_nil, List.set_cons_succ, List.set_cons_zero] at rN6
    obtain ⟨N7, pN7, rN7, i7, gN7, lN7, w7⟩ := put_field (b := b) (vs := [iv f.n, iv f.d, iv e.n, iv e.d, iv (48 + ky), iv (1 + vy), iv oy]) (p := 0) rrN6 (by omega) (by simp) (by simp) (by omega) i6 (by omega) gN6
    simp only [splice_cons, splice_nil, List.set_cons_succ, List.set_cons_zero] at rN7
    simp (disch := omega) [pN6, cells_hr (n := 7) rN6 rfl, pN7, cells_hr (n := 7) rN7 rfl]
    have hoy' : 0 ≤ oy ∧ oy ≤ 15 := by simp at hoy; omega
    exact ⟨⟨f.n, f.d, e.n, e.d, 48 + ky, 1 + vy, oy⟩, ⟨rfl, rfl, rfl, rfl, rfl, rfl, rfl⟩, drawn_ok (e := e) hf he z0 (by omega) (by omega) hoy', c5, by omega, i7, gN7⟩
end Go.Proofs.Ytbpaeonfebmomaa

namespace Go.Proofs.Ytbpaeonfebmomaa
open Go.RowKit
set_option linter.unusedVariables false
set_option linter.unusedSimpArgs false
set_option maxRecDepth 100000
attribute [local simp] List.getElem?_cons_zero
attribute [local irreducible] awCond awCall awLoop awDraw ow retQ retC resQ Keeps
theorem note_cl {M : Mem} {id : Nat} {x : Note} {t o : Bool} {e : TypeId} (h : M[id]? = some (.live ⟨x.row, o, t, e, 7⟩)) : Cl M id 0 x.row := fun j y hy => by
  rw [cell_hr h, Nat.zero_add]; exact hy
theorem sc_build (A : Option Addr) (n c : Nat) : Instr.fill (fun x => [(0, 1)][x]?) #[.slice none 0 0] [(0, .slice A n c)] = some #[.slice A n c] := by rfl
theorem Keeps.same {M M' : Mem} {B : Nat} (h : Keeps M M') : Same B M M' := ⟨h.len, fun i s _ hs => h.get hs⟩
set_option maxHeartbeats 2000000 in
theorem l18Draw_a {M : Mem} {b g k B most : Nat} (h : Src g B M k) (hb : b ≤ g) (hB : B ≤ M.length) (hk : k ≤ 1000) (hm : most ≤ 60) :
    Ctr Try.prog b 23 [.pointer (some ⟨g, 0, none⟩), iv most] M fun r M' => ∃ (l : List Note) (v : Value), r = .agg #[v] ∧ Acc noteR 53 M.length M' v l ∧ l.length ≤ most ∧ (∀ x, x ∈ l → noteB x = true) ∧ SortTo l l.length ∧ Same g M M' := by
  have hg := h.lt
  first | (refine ctr_fn Try.func23 rfl Try.ntmps23 Try.results23 rfl rfl (by simp) ?_) | (refine ctr_fnC Try.func23 rfl Try.ntmps23 Try.results23 rfl (by simp) ?_)
  simp (disch := omega) [wrap_in]
  have h0 := h.app [Slot.live ⟨[.slice none 0 0], true, true, 26, 1⟩, Slot.live ⟨[], true, true, 53, 7⟩]
  refine awCall_ctr (h0.pick (most + 1) hb (by omega) (by omega)) ?_
  rintro r M1 ⟨ct, k1, rfl, ct0, ct1, hk1, h1, u1⟩
  obtain ⟨cn, rfl⟩ := Int.eq_ofNat_of_zero_le ct0
  have hcn : cn ≤ most := by omega
  have n1 := u1.1
  simp only [List.length_append, List.length_cons, List.length_nil] at n1
  have e0 : M1[M.length]? = some (Slot.live ⟨[.slice none 0 0], true, true, 26, 1⟩) := u1.2 _ _ (by omega) (by simp)
  have e1 : M1[M.length + 1]? = some (Slot.live ⟨[], true, true, 53, 7⟩) := u1.2 _ _ (by omega) (by simp)
  have s1 : Same g M M1 := (Same.app g M _).trans (u1.same (Nat.le_refl _))
  have hA1 : Acc noteR 53 (M.length + 1) M1 (.slice (some ⟨M.length + 1, 0, none⟩) 0 0) [] := ⟨_, 0, 0, rfl, rfl, .inr ⟨M.length + 1, true, rfl, Nat.le_refl _, by simpa [cellsL] using e1⟩⟩
  try simp (disch := omega) [wrap_in]
  refine awLoop_T (fun m T M' => ∃ (l : List Note) (v : Value) (k' : Nat), l.length + m ≤ cn ∧ M'[M.length]? = some (Slot.live ⟨[.slice none 0 0], true, true, 26, 1⟩) ∧ Acc noteR 53 (M.length + 1) M' v l ∧ (∀ x, x ∈ l → noteB x = true) ∧ Src g B M' k' ∧ k' + 20 * m ≤ k + 2 + 20 * cn ∧ Same g M M' ∧ M.length + 2 ≤ M'.length ∧ look T 6 = some (iv m) ∧ look T 5 = some v ∧ look T 4 = some (.pointer (some ⟨M.length, 0, none⟩)) ∧ look T 0 = some (.pointer (some ⟨g, 0, none⟩))) cn
    ⟨[], _, k1, by simp, e0, hA1, (fun x hx => by cases hx), h1, by omega, s1, by omega, by simp, by simp, by simp, by simp⟩ ?_
  rintro m T M2 ⟨l, v, k2, hl, r0, hA, hv, h2, hk2, s2, n2, t6, t5, t4, t0⟩
  rcases m with _ | m
  · simp (disch := omega) [t6, t5, t4]
    obtain ⟨A, q, c, rfl, hq, hsl, -⟩ := hA.sl
    have hcA : A = none → c = 0 := by
      obtain ⟨_, _, _, he, -, hh⟩ := hA
      injection he with e1 e2 e3
      subst e1; subst e2; subst e3
      intro hn
      rcases hh with ⟨-, -, hh⟩ | ⟨_, _, hh, -⟩
      · exact hh
      · rw [hn] at hh; cases hh
    refine awCall_ctr ((l18Sort_a hsl (by omega) hcA hv).weaken (by omega)) ?_
    rintro r M3 ⟨l3, hA3, hp, hs, k3⟩
    have hA3' := hA3.low (B' := M.length + 1) (by omega)
    obtain ⟨A3, q3, c3, rfl, hq3, -, -⟩ := hA3.sl
    have r3 := k3.get r0
    have l3' := k3.len
    simp [sc_build, t4]
    rw [put_whole (vs := [.slice A3 q3 c3]) r3 (by omega) rfl (by simp), ow_some, cells_hr (r := ⟨[.slice A3 q3 c3], true, true, 26, 1⟩) (n := 1) (set_get (by omega)) rfl, ow_some]
    have hpl := hp.length_eq
    exact ⟨l3, _, rfl, (hA3'.set_ne (by omega)).low (by omega), by omega, fun x hx => hv x (hp.mem_iff.1 hx), hs, (s2.trans (k3.same)).trans (Same.set (by omega))⟩
  · have e : (0 : Int) < (m : Int) + 1 := by omega
    simp (disch := omega) [t6, t5, t4, t0, e]
    refine awCall_ctr (l18DrawNote_a h2 hb (by omega) (by omega)) ?_
    rintro _ M3 ⟨x, k3, rfl, hx, hk3, h3, g3⟩
    have r3 := g3.2 _ _ (by omega) r0
    have hA3 := g3.acc hA (by omega)
    have n3 := g3.1
    refine ⟨rfl, ?_⟩
    rw [put_box (b := b) (cs := [iv 0, iv 0, iv 0, iv 0, iv 0, iv 0, iv 0]) (vs := x.v.cells.toList) (by omega) rfl (by simp), ow_some]
    obtain ⟨M4, hM4⟩ : ∃ M' : Mem, M' = M3 ++ [Slot.live ⟨x.v.cells.toList, true, true, 53, 7⟩] := ⟨_, rfl⟩
    have b4 : M4[M3.length]? = some (Slot.live ⟨x.row, true, true, 53, 7⟩) := by rw [hM4]; exact getElem?_snoc_eq
    have r4 : M4[M.length]? = some (Slot.live ⟨[.slice none 0 0], true, true, 26, 1⟩) := by rw [hM4, List.getElem?_append_left (by omega)]; exact r3
    have hA4 : Acc noteR 53 (M.length + 1) M4 v l := by rw [hM4]; exact hA3.keeps (keeps_app _)
    have h4 : Src g B M4 k3 := by rw [hM4]; exact h3.app _
    have n4 : M4.length = M3.length + 1 := by rw [hM4]; simp
    have s4 : Same g M M4 := by rw [hM4]; exact (s2.trans (g3.same (Nat.le_refl _))).trans (Same.app _ _ _)
    rw [← hM4]
    clear hM4
    obtain ⟨A, q, c, rfl, hq, hsl, h1o⟩ := hA4.sl
    have hcx := note_cl b4
    refine awLoop_T (fun m' T M' => ∃ (i : Nat) (tw : Bool), i + m' = l.length ∧ M' = M4 ∧ look T 8 = some (.bool tw) ∧ look T 9 = some (iv i) ∧ look T 7 = some (.pointer (some ⟨M3.length, 0, none⟩)) ∧ look T 6 = some (iv (m + 1)) ∧ look T 5 = some (.slice A q c) ∧ look T 4 = some (.pointer (some ⟨M.length, 0, none⟩)) ∧ look T 0 = some (.pointer (some ⟨g, 0, none⟩))) l.length
      ⟨0, false, by omega, rfl, by simp, by simp, by simp, by simp [t6], by simp [t5], by simp [t4], by simp [t0]⟩ ?_
    rintro m' T M' ⟨i, tw, hi, rfl, t8, t9, t7, t6, t5, t4, t0⟩
    by_cases hlt : i < q
    · have e1 : (i : Int) < q := by omega
      obtain ⟨id, off, rfl, he, hc⟩ := hsl.at_ hlt
      simp (disch := omega) [t9, t5, e1, t8]
      cases tw
      · simp (disch := omega) [t5, t9, t7, t8, e1, he]
        refine awCall_det' (l18Order_a hc hcx (hv _ (el_mem (by omega))) hx) (by omega) ?_
        simp (disch := omega) [t5, t9, t7, t8, e1, he, wrap_in]
        exact lpI (m' - 1) (by omega) ⟨i + 1, decide (ordN (el l i) x = 0), by omega, rfl, by simp, by simp, by simp [t7], by simp [t6], by simp [t5], by simp [t4], by simp [t0]⟩
      · simp (disch := omega) [t5, t9, t7, t8, e1, he, wrap_in]
        exact lpI (m' - 1) (by omega) ⟨i + 1, true, by omega, rfl, by simp, by simp, by simp [t7], by simp [t6], by simp [t5], by simp [t4], by simp [t0]⟩
    · have e1 : ¬ (i : Int) < q := by omega
      simp (disch := omega) [t9, t5, e1, t8]
      cases tw
      · have cx := cells_hr (n := 7) b4 rfl
        simp (disch := omega) [t9, t5, t7, cx, Note.row]
        refine (hA4.keeps (keeps_app _)).append (R := noteR) (e := 53) (by_ := 56) (a := x) (by omega) (by simp; omega) (by omega) (by simp) (by kernel_rfl) (by simp [srcOf, noteR, Note.row]) (by rfl) (by omega) (by unfold maxLen; omega) ?_
        intro v' M5 hA5 hS5
        simp (disch := omega) [t6, wrap_in]
        have n5 := hS5.1
        simp only [List.length_append, List.length_cons, List.length_nil] at n5
        have r5 := hS5.2 M.length _ (by omega) (by rw [List.getElem?_append_left (by omega)]; exact r4)
        have hs5 := hS5.low (B' := B) (by omega)
        refine lpI m (by omega) ⟨l ++ [x], v', k3, by simp; omega, r5, hA5, fun y hy => ?_, (h4.app _).same hs5, by omega, (s4.trans (Same.app _ _ _)).trans (hS5.low (by omega)), by omega, by simp, by simp, by simp [t4], by simp [t0]⟩
        rcases List.mem_append.1 hy with hy | hy
        · exact hv y hy
        · rw [List.mem_singleton.1 hy]; exact hx
      · simp (disch := omega) [t9, t5, t7, t6, wrap_in]
        exact lpI m (by omega) ⟨l, _, k3, by omega, r4, hA4, hv, h4, by omega, s4, by omega, by simp, by simp [t5], by simp [t4], by simp [t0]⟩
end Go.Proofs.Ytbpaeonfebmomaa
