/- A choice among numbers. No conditions. -/
import Derived.Test.YthopcmglcnlcfaaS2
namespace Go.Proofs.Ythopcmglcnlcfaa
open Go.RowKit
set_option linter.unusedVariables false
set_option linter.unusedSimpArgs false
set_option maxRecDepth 100000
attribute [local simp] List.getElem?_cons_zero
attribute [local irreducible] awCond awCall awLoop awDraw ow retQ retC resQ Keeps
theorem UpdS.sl {α : Type} {q : Nat} {R : RecV α q} {g n : Nat} {M M' : Mem} {A : Option Addr} {l : List α} (u : UpdS g M M') (h : Sl R M A n l) (hA : ∀ a, A = some a → 0 < n → a.block ≠ g) : Sl R M' A n l := by
  refine ⟨h.1, fun hp => ?_⟩
  obtain ⟨id, off, e, he, hc⟩ := h.2 hp
  have hne := hA _ e hp
  have up : ∀ s, M[id]? = some s → M'[id]? = some s := fun s hs => u.2 id s hne hs
  refine ⟨id, off, e, ?_, fun j y hy => ?_⟩
  · unfold rowEsz at he ⊢
    cases hm : M[id]? with
    | none => rw [hm] at he; cases he
    | some y => rw [up y hm]; rw [hm] at he; exact he
  · have := hc j y hy
    unfold cellAt at this ⊢
    cases hm : M[id]? with
    | none => rw [hm] at this; cases this
    | some y => rw [up y hm]; rw [hm] at this; exact this
theorem among_s {M : Mem} {b g k B n c : Nat} {A : Option Addr} {l : List Int} (h : Src g B M k) (hb : b ≤ g) (hk : k + 2 ≤ 1099511627776) (hl : Sl intR M A n l) (hA : ∀ a, A = some a → 0 < n → a.block ≠ g) (h0 : 0 < n) (hn : n ≤ 1099511627776) :
    Ctr Try.prog b 103 [.pointer (some ⟨g, 0, none⟩), .slice A n c] M fun r M' => ∃ (x : Int) (k' : Nat), r = iv x ∧ x ∈ l ∧ k' ≤ k + 2 ∧ Src g B M' k' ∧ UpdS g M M' := by
  have hll := hl.1
  first | (refine ctr_fn Try.func103 rfl Try.ntmps103 Try.results103 rfl rfl (by simp) ?_) | (refine ctr_fnC Try.func103 rfl Try.ntmps103 Try.results103 rfl (by simp) ?_)
  simp
  refine awCall_ctr (h.pick n hb hk (by omega)) ?_
  rintro r M1 ⟨x, k1, rfl, x0, x1, hk1, h1, u1⟩
  obtain ⟨q, rfl⟩ := Int.eq_ofNat_of_zero_le x0
  have hq : q < n := by omega
  obtain ⟨id, off, rfl, he, hc⟩ := (u1.sl hl hA).at_ hq
  have c0 : cellAt M1 id (off + q * 1) = some (iv (el l q)) := hc 0 _ rfl
  simp only [Nat.mul_one] at c0
  simp (disch := omega) [hq, he, c0]
  exact ⟨el_mem (by omega), k1, hk1, h1, u1⟩
end Go.Proofs.Ythopcmglcnlcfaa
