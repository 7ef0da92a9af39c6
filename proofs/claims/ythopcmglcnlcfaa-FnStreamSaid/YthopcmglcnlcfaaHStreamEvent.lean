/- StreamEvent: records in memory, and the laws' helpers on them. No conditions. -/
import Derived.Test.YthopcmglcnlcfaaB0
import Derived.Test.YthopcmglcnlcfaaLA
import Derived.Laws.StructEq
namespace Go.Proofs.Ythopcmglcnlcfaa
open Go.RowKit
set_option linter.unusedVariables false
set_option linter.unusedSimpArgs false
set_option maxRecDepth 100000
attribute [local simp] List.getElem?_cons_zero
attribute [local irreducible] awCond awCall awLoop awDraw ow retQ retC resQ Keeps
structure StreamEvent where
  (d j o k u : Int)
deriving Inhabited, DecidableEq
def StreamEvent.row (c : StreamEvent) : List Value := [iv c.d, iv c.j, iv c.o, iv c.k, iv c.u]
def streamEventR : RecV StreamEvent 5 := ⟨StreamEvent.row, fun _ => rfl⟩
abbrev StreamEvent.v (c : StreamEvent) : Value := .agg #[iv c.d, iv c.j, iv c.o, iv c.k, iv c.u]
theorem streamEvent_cells {M : Mem} {id off : Nat} {g : StreamEvent} (h : Cl M id off g.row) : cellAt M id off = some (iv g.d) ∧ cellAt M id (off + 1) = some (iv g.j) ∧ cellAt M id (off + 2) = some (iv g.o) ∧ cellAt M id (off + 3) = some (iv g.k) ∧ cellAt M id (off + 4) = some (iv g.u) :=
  ⟨h 0 _ rfl, h 1 _ rfl, h 2 _ rfl, h 3 _ rfl, h 4 _ rfl⟩
theorem streamEvent_load {M : Mem} {id off : Nat} {g : StreamEvent} (h : Cl M id off g.row) : cellsAt M id off 5 = some [iv g.d, iv g.j, iv g.o, iv g.k, iv g.u] := cellsAt_of h rfl (by omega)
theorem streamEvent_eq {a b : StreamEvent} : a = b ↔ a.d = b.d ∧ a.j = b.j ∧ a.o = b.o ∧ a.k = b.k ∧ a.u = b.u := by
  cases a; cases b; simp
def streamEventI : Ints streamEventR := ⟨fun zs => ⟨gi zs 0, gi zs 1, gi zs 2, gi zs 3, gi zs 4⟩, fun zs h => by
  obtain ⟨x0, x1, x2, x3, x4, rfl⟩ : ∃ x0 x1 x2 x3 x4, zs = [x0, x1, x2, x3, x4] := by
    match zs, h with
    | [x0, x1, x2, x3, x4], _ => exact ⟨x0, x1, x2, x3, x4, rfl⟩
  rfl⟩

/-- Equality of records, as the language has it. -/
theorem streamEvent_same (a b : StreamEvent) : aggEq Try.prog 89 #[iv a.d, iv a.j, iv a.o, iv a.k, iv a.u] #[iv b.d, iv b.j, iv b.o, iv b.k, iv b.u] = some (decide (a = b)) := by
  refine aggEq_of (by kernel_rfl) rfl rfl fun w => ?_
  unfold Op.equal
  rw [show Op.maxDepth = 9999 + 1 from rfl]
  rw [run_equalIn_agg _ _ _ _ _ Try.underlying89 (by kernel_rfl)]
  simp [go_sem]
  repeat' split
  all_goals simp_all [streamEvent_eq]
theorem streamEvent_eql (a b : StreamEvent) : binV Try.prog .eql 89 (.agg #[iv a.d, iv a.j, iv a.o, iv a.k, iv a.u]) (.agg #[iv b.d, iv b.j, iv b.o, iv b.k, iv b.u]) = some (.bool (decide (a = b))) := by
  simp only [binV, eqV, Try.underlying89, streamEvent_same, Option.map_some]
theorem streamEvent_neq (a b : StreamEvent) : binV Try.prog .neq 89 (.agg #[iv a.d, iv a.j, iv a.o, iv a.k, iv a.u]) (.agg #[iv b.d, iv b.j, iv b.o, iv b.k, iv b.u]) = some (.bool (!decide (a = b))) := by
  simp only [binV, eqV, Try.underlying89, streamEvent_same, Option.map_some]
@[simp] theorem streamEvent_fill (x0 x1 x2 x3 x4 : Int) : Instr.fill (fun i => some (i * 5, 5)) (zrow [iv 0, iv 0, iv 0, iv 0, iv 0] 1).toArray [(0, .agg #[iv x0, iv x1, iv x2, iv x3, iv x4])] = some #[iv x0, iv x1, iv x2, iv x3, iv x4] := fill_agg (by omega) rfl rfl
def markStreamEvent (z : Int) (i : Nat) : StreamEvent := ⟨z + i * 5, z + i * 5 + 1, z + i * 5 + 1 + 1, z + i * 5 + 1 + 1 + 1, z + i * 5 + 1 + 1 + 1 + 1⟩
def markStreamEventL (z : Int) (n : Nat) : List StreamEvent := (List.range n).map (markStreamEvent z)
theorem markStreamEventL_succ (z : Int) (n : Nat) : markStreamEventL z (n + 1) = markStreamEventL z n ++ [markStreamEvent z n] := by simp [markStreamEventL, List.range_succ]
/-! The same, as the laws use them. -/
end Go.Proofs.Ythopcmglcnlcfaa
