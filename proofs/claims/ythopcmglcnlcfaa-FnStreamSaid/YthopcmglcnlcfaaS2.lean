/- The source of choices, beside lists that grow. No conditions. -/
import Derived.Test.YthopcmglcnlcfaaS1
namespace Go.Proofs.Ythopcmglcnlcfaa
open Go.RowKit
set_option linter.unusedVariables false
set_option linter.unusedSimpArgs false
set_option maxRecDepth 100000
attribute [local simp] List.getElem?_cons_zero
attribute [local irreducible] awCond awCall awLoop awDraw ow retQ retC resQ Keeps
theorem SrcAt.same {g : Nat} {M M' : Mem} {A : Option Addr} {n c : Nat} {cs : List Int} {k B : Nat} (h : SrcAt g M A n c cs k) (hs : Same B M M') (hg : g < B) (hA : ∀ a, A = some a → 0 < n → a.block < B) : SrcAt g M' A n c cs k := by
  obtain ⟨seed, hr, hsl, hap, hcs⟩ := h
  refine ⟨seed, hs.2 _ _ hg hr, ⟨hsl.1, fun hp => ?_⟩, hap, hcs⟩
  obtain ⟨id, off, e, he, hc⟩ := hsl.2 hp
  have hlt := hA _ e hp
  refine ⟨id, off, e, ?_, fun j y hy => ?_⟩
  · unfold rowEsz at he ⊢
    cases hm : M[id]? with
    | none => rw [hm] at he; cases he
    | some y => rw [hs.2 _ _ hlt hm]; rw [hm] at he; exact he
  · have := hc j y hy
    unfold cellAt at this ⊢
    cases hm : M[id]? with
    | none => rw [hm] at this; cases this
    | some y => rw [hs.2 _ _ hlt hm]; rw [hm] at this; exact this
/-- A source in row g, behind k draws; what it needs lies below B. -/
def Src (g B : Nat) (M : Mem) (k : Nat) : Prop := ∃ A n c cs, SrcAt g M A n c cs k ∧ g < B ∧ (∀ a, A = some a → 0 < n → a.block < B) ∧ n ≤ 1048576
theorem Src.same {g B k : Nat} {M M' : Mem} (h : Src g B M k) (hs : Same B M M') : Src g B M' k := by
  obtain ⟨A, n, c, cs, h1, h2, h3, h4⟩ := h
  exact ⟨A, n, c, cs, h1.same hs h2 h3, h2, h3, h4⟩
theorem Src.app {g B k : Nat} {M : Mem} (h : Src g B M k) (L : Mem) : Src g B (M ++ L) k :=
  h.same ⟨by simp, fun i s _ hs => by rw [List.getElem?_append_left (List.getElem?_eq_some_iff.1 hs).1]; exact hs⟩
theorem UpdS.acc {α : Type} {q : Nat} {R : RecV α q} {e : TypeId} {g B : Nat} {M M' : Mem} {v : Value} {l : List α} (u : UpdS g M M') (h : Acc R e B M v l) (hg : g < B) : Acc R e B M' v l := by
  obtain ⟨A, n, c, h1, h2, h3⟩ := h
  refine ⟨A, n, c, h1, h2, ?_⟩
  rcases h3 with h3 | ⟨id, t, h4, h5, h6⟩
  · exact .inl h3
  · exact .inr ⟨id, t, h4, h5, u.2 _ _ (by omega) h6⟩
theorem UpdS.same {g B : Nat} {M M' : Mem} (u : UpdS g M M') (h : B ≤ g) : Same B M M' := ⟨by rw [u.1]; exact Nat.le_refl _, fun i s hi hs => u.2 i s (by omega) hs⟩
theorem Same.trans {B : Nat} {M M1 M2 : Mem} (h : Same B M M1) (h' : Same B M1 M2) : Same B M M2 := ⟨Nat.le_trans h.1 h'.1, fun i s hi hs => h'.2 i s hi (h.2 i s hi hs)⟩
theorem Same.low {B B' : Nat} {M M' : Mem} (h : Same B M M') (hb : B' ≤ B) : Same B' M M' := ⟨h.1, fun i s hi hs => h.2 i s (by omega) hs⟩
theorem Src.pick {M : Mem} {b g k B : Nat} (m : Int) (h : Src g B M k) (hb : b ≤ g) (hk : k + 2 ≤ 1099511627776) (hm : m ≤ 1099511627776) :
    Ctr Try.prog b 100 [.pointer (some ⟨g, 0, none⟩), iv m] M fun r M' => ∃ (x : Int) (k' : Nat), r = iv x ∧ 0 ≤ x ∧ (x < m ∨ (m ≤ 1 ∧ x = 0)) ∧ k' ≤ k + 2 ∧ Src g B M' k' ∧ UpdS g M M' := by
  obtain ⟨A, n, c, cs, h1, h2, h3, h4⟩ := h
  refine (pick_s m h1 hb hk (by omega) hm).mono fun r M' ⟨x, k', a1, a2, a3, a4, a5, a6⟩ => ⟨x, k', a1, a2, a3, a4, ⟨A, n, c, cs, a5, h2, h3, h4⟩, a6⟩
theorem src_build (A : Option Addr) (n c : Nat) : Instr.fill (fun x => [(0, 1), (1, 1), (2, 1)][x]?) #[.slice none 0 0, .int .i64 0, .int .u64 0] [(0, .slice A n c)] = some #[.slice A n c, .int .i64 0, .int .u64 0] := by rfl
theorem l00From_a {M : Mem} {A : Option Addr} {n c : Nat} {cs : List Int} (h : Sl codeR M A n cs) (hn : n ≤ 1048576) (hcs : ∀ x, x ∈ cs → 0 ≤ x ∧ x ≤ 255) : Det Try.prog M.length 57 [.slice A n c] M (.pointer (some ⟨M.length, 0, none⟩)) (M ++ [.live ⟨[.slice A n c, iv 0, .int .u64 0], true, true, 117, 3⟩]) := by
  refine Ctr.det ?_
  first | (refine ctr_fn Try.func57 rfl Try.ntmps57 Try.results57 rfl rfl (by simp) ?_) | (refine ctr_fnC Try.func57 rfl Try.ntmps57 Try.results57 rfl (by simp) ?_)
  simp [src_build]
theorem src_new {M : Mem} {A : Option Addr} {n c : Nat} {cs : List Int} (h : Sl codeR M A n cs) (hn : n ≤ 1048576) (hcs : ∀ x, x ∈ cs → 0 ≤ x ∧ x ≤ 255) : Src M.length (M.length + 1) (M ++ [.live ⟨[.slice A n c, iv 0, .int .u64 0], true, true, 117, 3⟩]) 0 :=
  ⟨A, n, c, cs, ⟨0, by rw [getElem?_snoc_eq]; rfl, h.app _, fun a e hp => by obtain ⟨b, e', hb⟩ := h.lt hp; rw [e] at e'; cases e'; omega, hcs⟩, by omega, fun a e hp => by obtain ⟨b, e', hb⟩ := h.lt hp; rw [e] at e'; cases e'; omega, hn⟩
end Go.Proofs.Ythopcmglcnlcfaa
