/- Nodes: the laws' helpers. No conditions. -/
import Derived.Test.YtffbocbjmhkikaaHPatch
namespace Go.Proofs.Ytffbocbjmhkikaa
open Go.RowKit
set_option linter.unusedVariables false
set_option linter.unusedSimpArgs false
set_option maxRecDepth 100000
attribute [local simp] List.getElem?_cons_zero
attribute [local irreducible] awCond awCall awLoop awDraw ow retQ retC resQ Keeps
theorem SlV.isSl {α : Type} {k : Nat} [Inhabited α] {P : RecP α k} {lo hi : Nat} {M : Mem} {u : Value} {l : List α} (h : SlV P lo hi M u l) : ∃ A n c, u = .slice A n c := by
  obtain ⟨A, n, c, e, _⟩ := h
  exact ⟨A, n, c, e⟩
theorem agree_mid {M A B C : Mem} {lo hi : Nat} (h : B.length = A.length) (hm : M.length + A.length ≤ lo) : Agree lo hi (M ++ B ++ C) (M ++ (A ++ C)) := fun i s h1 h2 hs => by
  rw [List.append_assoc] at hs
  rw [List.getElem?_append_right (by omega), List.getElem?_append_right (by omega)] at hs ⊢
  rw [h] at hs
  exact hs
/-- Rows ahead of a value's own rows have turned. -/
theorem SlV.boxes {α : Type} {k : Nat} [Inhabited α] {P : RecP α k} {M A B C : Mem} {u : Value} {l : List α} (h : SlV P (M ++ B).length (M ++ B ++ C).length (M ++ B ++ C) u l) (hl : B.length = A.length) : SlV P M.length (M ++ (A ++ C)).length (M ++ (A ++ C)) u l :=
  (h.agree (agree_mid hl (by simp; omega))).wide (by simp) (by simp; omega)
theorem node_eq {a b : Node} : a = b ↔ a.k = b.k ∧ a.a = b.a ∧ a.b = b.b ∧ a.from_ = b.from_ := by
  cases a; cases b; simp
def wtNode (x : Node) : Nat := x.from_.length
theorem toNode_c {M : Mem} {lo hi : Nat} {us : List Value} {x : Node} (h : nodeP.rd lo hi M x us) (hb : x.from_.length ≤ 1048576) : ∃ vs N, Det Try.prog M.length 142 [.agg us.toArray] M (.agg vs.toArray) (M ++ N) ∧ nodeP.rd M.length (M ++ N).length (M ++ N) x vs ∧ vs.all oneV = true ∧ (Value.agg vs.toArray).cells.toList = vs := by
  obtain ⟨u, rfl, hu⟩ := h
  obtain ⟨v, N, d, r⟩ := toInt64S_x (M := M ++ [.live ⟨[iv x.k, iv x.a, iv x.b, u], true, true, 175, 4⟩, .live ⟨[iv 0, iv 0, iv 0, .slice none 0 0], true, true, 141, 4⟩, .live ⟨[iv x.k, iv x.a, iv x.b, .slice none 0 0], true, true, 141, 4⟩]) (hu.app _) hb
  obtain ⟨A, n, c, rfl⟩ := r.isSl
  refine ⟨[iv x.k, iv x.a, iv x.b, .slice A n c], [.live ⟨[iv x.k, iv x.a, iv x.b, u], true, true, 175, 4⟩, .live ⟨[iv x.k, iv x.a, iv x.b, .slice A n c], true, true, 141, 4⟩, .live ⟨[iv x.k, iv x.a, iv x.b, .slice A n c], true, true, 141, 4⟩] ++ N, Ctr.det ?_, ⟨_, rfl, ?_⟩, by simp, rfl⟩
  · obtain ⟨A1, n1, c1, rfl⟩ := hu.isSl
    first | (refine ctr_fn Try.func142 rfl Try.ntmps142 Try.results142 rfl rfl (by simp) ?_) | (refine ctr_fnC Try.func142 rfl Try.ntmps142 Try.results142 rfl (by simp) ?_)
    simp
    refine awCall_det' d (by simp) ?_
    simp
  · exact r.boxes rfl
theorem szNode_x {M : Mem} {lo hi : Nat} {us : List Value} {x : Node} {z : Int} (h : nodeP.rd lo hi M x us) (hz : 0 ≤ z) (hz1 : z ≤ 1048576) : Det Try.prog M.length 141 [.agg us.toArray, iv z] M (iv (if z - wtNode x < 0 then -1 else z - wtNode x)) M := by
  obtain ⟨u, rfl, hu⟩ := h
  obtain ⟨A1, n1, c1, rfl⟩ := hu.isSl
  have e : wtNode x = wtInt64S x.from_ := rfl
  rw [e]
  first | (refine det_fn Try.func141 rfl Try.ntmps141 Try.results141 rfl rfl rfl (by simp) ?_) | (refine det_fnC Try.func141 rfl Try.ntmps141 Try.results141 rfl rfl (by simp) ?_)
  simp
  refine awCall_det' (szInt64S_x (hu.app _) hz hz1) (by simp) ?_
  by_cases hneg : z - wtInt64S x.from_ < 0
  · simp [hneg, keeps_app]
  · simp [hneg, keeps_app]
theorem eqNode_x {M : Mem} {lo hi lo' hi' : Nat} {us vs : List Value} {x y : Node} (h : nodeP.rd lo hi M x us) (h' : nodeP.rd lo' hi' M y vs) : Det Try.prog M.length 144 [.agg us.toArray, .agg vs.toArray] M (.bool (decide (x = y))) M := by
  obtain ⟨u, rfl, hu⟩ := h
  obtain ⟨A1, n1, c1, rfl⟩ := hu.isSl
  obtain ⟨v, rfl, hv⟩ := h'
  obtain ⟨A2, n2, c2, rfl⟩ := hv.isSl
  first | (refine det_fn Try.func144 rfl Try.ntmps144 Try.results144 rfl rfl rfl (by simp) ?_) | (refine det_fnC Try.func144 rfl Try.ntmps144 Try.results144 rfl rfl (by simp) ?_)
  simp
  by_cases h1 : x.k = y.k
  case neg => simp [h1, node_eq, keeps_app]
  by_cases h2 : x.a = y.a
  case neg => simp [h1, h2, node_eq, keeps_app]
  by_cases h3 : x.b = y.b
  case neg => simp [h1, h2, h3, node_eq, keeps_app]
  simp [h1, h2, h3]
  refine awCall_det' (eqInt64S_x (hu.app _) (hv.app _)) (by simp) ?_
  by_cases h4 : x.from_ = y.from_
  · simp [h1, h2, h3, h4, node_eq, keeps_app]
  · simp [h1, h2, h3, h4, node_eq, keeps_app]
end Go.Proofs.Ytffbocbjmhkikaa
