/- Boxes beside a source and lists that grow. No conditions. -/
import Derived.Test.YthopcmglcnlcfaaS2
namespace Go.Proofs.Ythopcmglcnlcfaa
open Go.RowKit
set_option linter.unusedVariables false
set_option linter.unusedSimpArgs false
set_option maxRecDepth 100000
attribute [local simp] List.getElem?_cons_zero
attribute [local irreducible] awCond awCall awLoop awDraw ow retQ retC resQ Keeps
theorem put_box {b : Nat} {M : Mem} {vs cs : List Value} {t : Bool} {e : TypeId} {z : Nat} (hb : b ≤ M.length) (hl : vs.length = cs.length) (h1 : vs.all oneV = true) :
    putCells b (M ++ [.live ⟨cs, true, t, e, z⟩]) M.length 0 vs = some (M ++ [.live ⟨vs, true, t, e, z⟩]) := by
  rw [put_whole getElem?_snoc_eq hb hl h1]
  simp
theorem Same.app (B : Nat) (M L : Mem) : Same B M (M ++ L) := ⟨by simp, fun i s _ hs => by rw [List.getElem?_append_left (List.getElem?_eq_some_iff.1 hs).1]; exact hs⟩
theorem Acc.box {α : Type} {q : Nat} {R : RecV α q} {e : TypeId} {g B : Nat} {M M' : Mem} {s s' : Slot} {v : Value} {l : List α} (h : Acc R e B M v l) (hg : g < B) (u : UpdS g (M ++ [s]) M') : Acc R e B (M'.set M.length s') v l := by
  obtain ⟨A, n, c, h1, h2, h3⟩ := h
  refine ⟨A, n, c, h1, h2, ?_⟩
  rcases h3 with h3 | ⟨id, t, h4, h5, h6⟩
  · exact .inl h3
  · have hlt := (List.getElem?_eq_some_iff.1 h6).1
    exact .inr ⟨id, t, h4, h5, by rw [List.getElem?_set_ne (by omega)]; exact u.2 _ _ (by omega) (by rw [List.getElem?_append_left hlt]; exact h6)⟩
end Go.Proofs.Ythopcmglcnlcfaa
