/- The source of choices: a number is drawn. No conditions. -/
import Derived.Test.YthopcmglcnlcfaaL1
namespace Go.Proofs.Ythopcmglcnlcfaa
open Go.RowKit
set_option linter.unusedVariables false
set_option linter.unusedSimpArgs false
set_option maxRecDepth 100000
attribute [local simp] List.getElem?_cons_zero
attribute [local irreducible] awCond awCall awLoop awDraw ow retQ retC resQ Keeps
def codeR : RecV Int 1 := ⟨fun n => [.int .u8 n], fun _ => rfl⟩
/-- The source in row g, behind k draws; cs: the bytes it reads. -/
def SrcAt (g : Nat) (M : Mem) (A : Option Addr) (n c : Nat) (cs : List Int) (k : Nat) : Prop :=
  ∃ seed : Int, M[g]? = some (.live ⟨[.slice A n c, iv k, .int .u64 seed], true, true, 117, 3⟩) ∧ Sl codeR M A n cs ∧ (∀ a, A = some a → 0 < n → a.block ≠ g) ∧ ∀ x, x ∈ cs → 0 ≤ x ∧ x ≤ 255
def UpdS (g : Nat) (M M' : Mem) : Prop := M'.length = M.length ∧ ∀ (i : Nat) s, i ≠ g → M[i]? = some s → M'[i]? = some s
theorem put_row {b : Nat} {M : Mem} {id p : Nat} {v : Value} {cs : List Value} {t : Bool} {e : TypeId} {z : Nat} (hr : M[id]? = some (.live ⟨cs, true, t, e, z⟩)) (hb : b ≤ id) (hp : p < cs.length) (h1 : oneV v = true) :
    putCells b M id p [v] = some (M.set id (.live ⟨cs.set p v, true, t, e, z⟩)) := by
  have := put_set (b := b) (M := M) (id := id) (p := p) (v := v) (cs := cs) (t := t) (e := e) (z := z) (List.getElem?_eq_some_iff.1 hr).1 hb hp h1
  rw [set_self hr] at this
  exact this
theorem cell_row {M : Mem} {id off : Nat} {r : Row} (h : id < M.length) : cellAt (M.set id (.live r)) id off = r.cells[off]? := by
  simp [cellAt, h]
theorem u8_in {x : Int} (h1 : 0 ≤ x) (h2 : x ≤ 255) : IntKind.u64.wrap x = x := by
  have e : (2 : Int) ^ IntKind.u64.bits = 18446744073709551616 := by decide
  have e2 : IntKind.u64.signed = false := rfl
  simp only [IntKind.wrap, e, e2]
  simp
  omega
theorem and_bd (a : Int) : 0 ≤ ((BitVec.ofInt IntKind.u64.bits a &&& BitVec.ofInt IntKind.u64.bits 255).toNat : Int) ∧ ((BitVec.ofInt IntKind.u64.bits a &&& BitVec.ofInt IntKind.u64.bits 255).toNat : Int) ≤ 255 := by
  have e : (BitVec.ofInt IntKind.u64.bits 255).toNat = 255 := by decide
  have := Nat.and_le_right (n := (BitVec.ofInt IntKind.u64.bits a).toNat) (m := (BitVec.ofInt IntKind.u64.bits 255).toNat)
  rw [BitVec.toNat_and]
  rw [e] at this ⊢
  omega
theorem shr40 (a : Int) : intV .shr .u64 a 40 = some (.int .u64 (a.fdiv (2 ^ 40))) := by rfl
def mask8 (a : Int) : Int := IntKind.u64.wrap ((BitVec.ofInt IntKind.u64.bits a &&& BitVec.ofInt IntKind.u64.bits 255).toNat : Int)
theorem mask8_bd (a : Int) : 0 ≤ mask8 a ∧ mask8 a ≤ 255 := by
  have h := and_bd a
  unfold mask8
  rw [u8_in h.1 h.2]
  exact h
theorem and255 (a : Int) : intV .and .u64 a 255 = some (.int .u64 (mask8 a)) := by rfl
theorem next_s {M : Mem} {b g k n c : Nat} {A : Option Addr} {cs : List Int} (h : SrcAt g M A n c cs k) (hb : b ≤ g) (hk : k ≤ 1099511627776) (hn : n ≤ 1099511627776) :
    Ctr Try.prog b 123 [.pointer (some ⟨g, 0, none⟩)] M fun r M' => (∃ x : Int, r = iv x ∧ 0 ≤ x ∧ x ≤ 255) ∧ SrcAt g M' A n c cs (k + 1) ∧ UpdS g M M' := by
  obtain ⟨seed, hr, hsl, hap, hcs⟩ := h
  have hgl := (List.getElem?_eq_some_iff.1 hr).1
  have a0 : cellAt M g 0 = some (.slice A n c) := by simp [cellAt, hr]
  have a1 : cellAt M g 1 = some (iv k) := by simp [cellAt, hr]
  have hput1 := put_row (b := b) (p := 1) (v := iv (k + 1)) hr hb (by simp) rfl
  obtain ⟨M1, hM1⟩ : ∃ M1 : Mem, M1 = M.set g (.live ⟨[.slice A n c, iv (k + 1), .int .u64 seed], true, true, 117, 3⟩) := ⟨_, rfl⟩
  have hput1' : putCells b M g 1 [iv (k + 1)] = some M1 := by rw [hput1, hM1]; rfl
  have hr1 : M1[g]? = some (.live ⟨[.slice A n c, iv (k + 1), .int .u64 seed], true, true, 117, 3⟩) := by rw [hM1, List.getElem?_set_self hgl]
  have hl1 : M1.length = M.length := by rw [hM1]; simp
  have hu1 : ∀ (i : Nat) x, i ≠ g → M[i]? = some x → M1[i]? = some x := fun i x hi hx => by rw [hM1, List.getElem?_set_ne (Ne.symm hi)]; exact hx
  clear hM1 hput1
  have a2 : cellAt M1 g 2 = some (.int .u64 seed) := by simp [cellAt, hr1]
  have hput2 := fun z : Int => put_row (b := b) (p := 2) (v := .int .u64 z) hr1 hb (by simp) rfl
  have C := fun (off : Nat) (cs : List Value) => cell_row (M := M1) (id := g) (off := off) (r := ⟨cs, true, true, 117, 3⟩) (by omega)
  have fin : ∀ (x z : Int), 0 ≤ x → x ≤ 255 → (0 ≤ x ∧ x ≤ 255) ∧ SrcAt g (M1.set g (.live ⟨[.slice A n c, iv (k + 1), .int .u64 z], true, true, 117, 3⟩)) A n c cs (k + 1) ∧ UpdS g M (M1.set g (.live ⟨[.slice A n c, iv (k + 1), .int .u64 z], true, true, 117, 3⟩)) := by
    intro x z h1 h2
    have hup : ∀ (i : Nat) y, i ≠ g → M[i]? = some y → (M1.set g (.live ⟨[.slice A n c, iv (k + 1), .int .u64 z], true, true, 117, 3⟩))[i]? = some y := fun i y hi hy => by rw [List.getElem?_set_ne (Ne.symm hi)]; exact hu1 i y hi hy
    refine ⟨⟨h1, h2⟩, ⟨z, by rw [List.getElem?_set_self (by omega)]; rfl, ⟨hsl.1, fun hp => ?_⟩, hap, hcs⟩, by simp [hl1], hup⟩
    obtain ⟨id, off, e, he, hc⟩ := hsl.2 hp
    have hne : id ≠ g := hap _ e hp
    have heq : ∀ y, M[id]? = some y → (M1.set g (.live ⟨[.slice A n c, iv (k + 1), .int .u64 z], true, true, 117, 3⟩))[id]? = some y := fun y hy => hup id y hne hy
    refine ⟨id, off, e, ?_, fun j y hy => ?_⟩
    · unfold rowEsz at he ⊢
      cases hm : M[id]? with
      | none => rw [hm] at he; cases he
      | some y => rw [heq y hm]; rw [hm] at he; exact he
    · have := hc j y hy
      unfold cellAt at this ⊢
      cases hm : M[id]? with
      | none => rw [hm] at this; cases this
      | some y => rw [heq y hm]; rw [hm] at this; exact this
  first | (refine ctr_fn Try.func123 rfl Try.ntmps123 Try.results123 rfl rfl (by simp) ?_) | (refine ctr_fnC Try.func123 rfl Try.ntmps123 Try.results123 rfl (by simp) ?_)
  simp
  refine awDraw_E 9 [[],[0],[1,0],[2,1,0],[],[4],[5,4],[6,5,4],[7,6,5,4],[3,2,1,0,8,7,6,5,4]] (by kernel_rfl) (by kernel_rfl) ?_
  simp [a0, a1]
  by_cases hkn : k < n
  · obtain ⟨id, off, rfl, he, hc⟩ := hsl.at_ hkn
    have hb0 : cellAt M id (off + k * 1) = some (.int .u8 (el cs k)) := hc 0 _ rfl
    simp only [Nat.mul_one] at hb0
    have hx := hcs _ (el_mem (l := cs) (i := k) (by have := hsl.1; omega))
    simp [hkn]
    refine awDraw_E 8 [[],[0],[1,0],[2,1,0],[],[4],[5,4],[6,5,4],[3,2,1,0,7,6,5,4],[8,3,2,1,0,7,6,5,4],[9,8,3,2,1,0,7,6,5,4],[10,9,8,3,2,1,0,7,6,5,4]] (by kernel_rfl) (by kernel_rfl) ?_
    have hw1 : (k : Int) + 1 ≤ n := by omega
    simp (disch := omega) [a0, a1, hkn, he, hb0, wrap_in, hput1', a2, hput2, C]
    refine awDraw_E 9 [[],[0],[1,0],[2,1,0],[],[4],[5,4],[6,5,4],[7,6,5,4],[3,2,1,0,8,7,6,5,4]] (by kernel_rfl) (by kernel_rfl) ?_
    simp (disch := omega) [C, wrap_in, hw1]
    exact fin _ _ hx.1 hx.2
  · simp (disch := omega) [hkn, a1, hput1', a2, hput2, wrap_in, C]
    refine awDraw_E 9 [[],[0],[1,0],[2,1,0],[],[4],[5,4],[6,5,4],[7,6,5,4],[3,2,1,0,8,7,6,5,4]] (by kernel_rfl) (by kernel_rfl) ?_
    have hw1 : ¬ (k : Int) + 1 ≤ n := by omega
    simp (disch := omega) [C, wrap_in, hw1]
    generalize IntKind.u64.wrap (IntKind.u64.wrap (IntKind.u64.wrap (seed * 6364136223846793005) + IntKind.u64.wrap 0) + 1442695040888963407) = Z
    have hx := mask8_bd (Z.fdiv (2 ^ 40))
    rw [shr40]
    generalize Z.fdiv (2 ^ 40) = Y at hx ⊢
    simp (disch := omega) [and255, wrap_in]
    exact fin _ _ hx.1 hx.2
theorem pick_s {M : Mem} {b g k n c : Nat} {A : Option Addr} {cs : List Int} (m : Int) (h : SrcAt g M A n c cs k) (hb : b ≤ g) (hk : k + 2 ≤ 1099511627776) (hn : n ≤ 1099511627776) (hm : m ≤ 1099511627776) :
    Ctr Try.prog b 100 [.pointer (some ⟨g, 0, none⟩), iv m] M fun r M' => ∃ (x : Int) (k' : Nat), r = iv x ∧ 0 ≤ x ∧ (x < m ∨ (m ≤ 1 ∧ x = 0)) ∧ k' ≤ k + 2 ∧ SrcAt g M' A n c cs k' ∧ UpdS g M M' := by
  first | (refine ctr_fn Try.func100 rfl Try.ntmps100 Try.results100 rfl rfl (by simp) ?_) | (refine ctr_fnC Try.func100 rfl Try.ntmps100 Try.results100 rfl (by simp) ?_)
  simp
  by_cases h1 : m ≤ 1
  · simp [h1]
    exact ⟨k, by omega, h, rfl, fun i s _ hs => hs⟩
  · simp [h1]
    refine awCall_ctr (next_s h hb (by omega) hn) ?_
    rintro r M1 ⟨⟨x, rfl, x0, x1⟩, h2, u1⟩
    have hmod : ∀ y : Int, 0 ≤ y → y.tmod m = y % m ∧ 0 ≤ y % m ∧ y % m < m := fun y hy => ⟨Int.tmod_eq_emod_of_nonneg hy, Int.emod_nonneg _ (by omega), Int.emod_lt_of_pos _ (by omega)⟩
    have hm0 : ¬ m = 0 := by omega
    by_cases h3 : 200 < m
    · simp (disch := omega) [h3, wrap_in]
      refine awCall_ctr (next_s h2 hb (by omega) hn) ?_
      rintro r M2 ⟨⟨y, rfl, y0, y1⟩, h4, u2⟩
      obtain ⟨e1, e2, e3⟩ := hmod (x * 256 + y) (by omega)
      simp (disch := omega) [wrap_in, hm0, e1]
      exact ⟨e2, .inl e3, k + 1 + 1, by omega, h4, u2.1.trans u1.1, fun i s hi hs => u2.2 i s hi (u1.2 i s hi hs)⟩
    · obtain ⟨e1, e2, e3⟩ := hmod x x0
      simp (disch := omega) [h3, wrap_in, hm0, e1]
      exact ⟨e2, .inl e3, k + 1, by omega, h2, u1⟩
end Go.Proofs.Ythopcmglcnlcfaa
