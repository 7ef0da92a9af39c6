/- Frac: records in memory, and the laws' helpers on them. No conditions. -/
import Derived.Test.YtgaiejaegimilaaB0
import Derived.Test.YtgaiejaegimilaaLA
import Derived.Laws.StructEq
namespace Go.Proofs.Ytgaiejaegimilaa
open Go.RowKit
set_option linter.unusedVariables false
set_option linter.unusedSimpArgs false
set_option maxRecDepth 100000
attribute [local simp] List.getElem?_cons_zero
attribute [local irreducible] awCond awCall awLoop awDraw ow retQ retC resQ Keeps
structure Frac where
  (n d : Int)
deriving Inhabited, DecidableEq
def Frac.row (c : Frac) : List Value := [iv c.n, iv c.d]
def fracR : RecV Frac 2 := ⟨Frac.row, fun _ => rfl⟩
abbrev Frac.v (c : Frac) : Value := .agg #[iv c.n, iv c.d]
theorem frac_cells {M : Mem} {id off : Nat} {g : Frac} (h : Cl M id off g.row) : cellAt M id off = some (iv g.n) ∧ cellAt M id (off + 1) = some (iv g.d) :=
  ⟨h 0 _ rfl, h 1 _ rfl⟩
theorem frac_load {M : Mem} {id off : Nat} {g : Frac} (h : Cl M id off g.row) : cellsAt M id off 2 = some [iv g.n, iv g.d] := cellsAt_of h rfl (by omega)
theorem frac_eq {a b : Frac} : a = b ↔ a.n = b.n ∧ a.d = b.d := by
  cases a; cases b; simp
def fracI : Ints fracR := ⟨fun zs => ⟨gi zs 0, gi zs 1⟩, fun zs h => by
  obtain ⟨x0, x1, rfl⟩ : ∃ x0 x1, zs = [x0, x1] := by
    match zs, h with
    | [x0, x1], _ => exact ⟨x0, x1, rfl⟩
  rfl⟩

/-- Equality of records, as the language has it. -/
theorem frac_same (a b : Frac) : aggEq Try.prog 58 #[iv a.n, iv a.d] #[iv b.n, iv b.d] = some (decide (a = b)) := by
  refine aggEq_of (by kernel_rfl) rfl rfl fun w => ?_
  unfold Op.equal
  rw [show Op.maxDepth = 9999 + 1 from rfl]
  rw [run_equalIn_agg _ _ _ _ _ Try.underlying58 (by kernel_rfl)]
  simp [go_sem]
  repeat' split
  all_goals simp_all [frac_eq]
theorem frac_eql (a b : Frac) : binV Try.prog .eql 58 (.agg #[iv a.n, iv a.d]) (.agg #[iv b.n, iv b.d]) = some (.bool (decide (a = b))) := by
  simp only [binV, eqV, Try.underlying58, frac_same, Option.map_some]
theorem frac_neq (a b : Frac) : binV Try.prog .neq 58 (.agg #[iv a.n, iv a.d]) (.agg #[iv b.n, iv b.d]) = some (.bool (!decide (a = b))) := by
  simp only [binV, eqV, Try.underlying58, frac_same, Option.map_some]
@[simp] theorem frac_fill (x0 x1 : Int) : Instr.fill (fun i => some (i * 2, 2)) (zrow [iv 0, iv 0] 1).toArray [(0, .agg #[iv x0, iv x1])] = some #[iv x0, iv x1] := fill_agg (by omega) rfl rfl
theorem toFrac_a {M : Mem} (g : Frac) : Det Try.prog M.length 132 [g.v] M g.v M := by
  first | (refine det_fn Try.func132 rfl Try.ntmps132 Try.results132 rfl rfl rfl (by simp) ?_) | (refine det_fnC Try.func132 rfl Try.ntmps132 Try.results132 rfl rfl (by simp) ?_)
  simp [keeps_app]
theorem eqFrac_a {M : Mem} (a b : Frac) : Det Try.prog M.length 134 [a.v, b.v] M (.bool (decide (a = b))) M := by
  first | (refine det_fn Try.func134 rfl Try.ntmps134 Try.results134 rfl rfl rfl (by simp) ?_) | (refine det_fnC Try.func134 rfl Try.ntmps134 Try.results134 rfl rfl (by simp) ?_)
  simp
  repeat' (first | (refine awCond_split ?_ ?_ <;> intro _) | (simp [keeps_app]))
  all_goals (simp_all [frac_eq])
def markFrac (z : Int) (i : Nat) : Frac := ⟨z + i * 2, z + i * 2 + 1⟩
def markFracL (z : Int) (n : Nat) : List Frac := (List.range n).map (markFrac z)
theorem markFracL_succ (z : Int) (n : Nat) : markFracL z (n + 1) = markFracL z n ++ [markFrac z n] := by simp [markFracL, List.range_succ]
/-! The same, as the laws use them. -/
end Go.Proofs.Ytgaiejaegimilaa
