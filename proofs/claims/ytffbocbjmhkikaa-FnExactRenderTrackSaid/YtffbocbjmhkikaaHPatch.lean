/- Nodes, patches, envelopes, instruments in memory. No conditions. -/
import Derived.Test.YtffbocbjmhkikaaN2
import Derived.Test.YtffbocbjmhkikaaN5
import Derived.Test.YtffbocbjmhkikaaHSegment
namespace Go.Proofs.Ytffbocbjmhkikaa
open Go.RowKit
set_option linter.unusedVariables false
set_option linter.unusedSimpArgs false
set_option maxRecDepth 100000
attribute [local simp] List.getElem?_cons_zero
attribute [local irreducible] awCond awCall awLoop awDraw ow retQ retC resQ Keeps
structure Node where
  (k a b : Int)
  from_ : List Int
deriving Inhabited, DecidableEq
structure Patch where
  inp : Int
  tabs : List (List Int)
  nodes : List Node
  outs : List Int
deriving Inhabited, DecidableEq
structure Envl where
  st : Int
  segs : List Segment
  rel : Int
deriving Inhabited, DecidableEq
structure Inst where
  pat : Patch
  env : Envl
  steps : List Int
deriving Inhabited, DecidableEq
def nodeP : RecP Node 4 where
  rd := fun lo hi M x vs => ∃ u, vs = [iv x.k, iv x.a, iv x.b, u] ∧ SlV intP lo hi M u x.from_
  len := fun ⟨u, h, _⟩ => by rw [h]; rfl
  agree := fun ⟨u, h1, h2⟩ hg => ⟨u, h1, h2.agree hg⟩
  wide := fun ⟨u, h1, h2⟩ a b => ⟨u, h1, h2.wide a b⟩
def patchP : RecP Patch 4 where
  rd := fun lo hi M x vs => ∃ u v w, vs = [iv x.inp, u, v, w] ∧ SlV tabP lo hi M u x.tabs ∧ SlV nodeP lo hi M v x.nodes ∧ SlV intP lo hi M w x.outs
  len := fun ⟨u, v, w, h, _⟩ => by rw [h]; rfl
  agree := fun ⟨u, v, w, h1, h2, h3, h4⟩ hg => ⟨u, v, w, h1, h2.agree hg, h3.agree hg, h4.agree hg⟩
  wide := fun ⟨u, v, w, h1, h2, h3, h4⟩ a b => ⟨u, v, w, h1, h2.wide a b, h3.wide a b, h4.wide a b⟩
abbrev segP : RecP Segment 2 := .flat segmentR
def envP : RecP Envl 3 where
  rd := fun lo hi M x vs => ∃ u, vs = [iv x.st, u, iv x.rel] ∧ SlV segP lo hi M u x.segs
  len := fun ⟨u, h, _⟩ => by rw [h]; rfl
  agree := fun ⟨u, h1, h2⟩ hg => ⟨u, h1, h2.agree hg⟩
  wide := fun ⟨u, h1, h2⟩ a b => ⟨u, h1, h2.wide a b⟩
def instP : RecP Inst 8 where
  rd := fun lo hi M x vs => ∃ ps es u, vs = ps ++ es ++ [u] ∧ patchP.rd lo hi M x.pat ps ∧ envP.rd lo hi M x.env es ∧ SlV intP lo hi M u x.steps
  len := fun ⟨ps, es, u, h, h1, h2, _⟩ => by rw [h, List.length_append, List.length_append, patchP.len h1, envP.len h2]; rfl
  agree := fun ⟨ps, es, u, h, h1, h2, h3⟩ hg => ⟨ps, es, u, h, patchP.agree h1 hg, envP.agree h2 hg, h3.agree hg⟩
  wide := fun ⟨ps, es, u, h, h1, h2, h3⟩ a b => ⟨ps, es, u, h, patchP.wide h1 a b, envP.wide h2 a b, h3.wide a b⟩
theorem Good.imp {H : Type} {enc : TypeId × Value → H} {α : Type} {k : Nat} {t : TypeId} {P Q : RecP α k} (h : Good enc t P) (hi : ∀ lo hi M a vs, P.rd lo hi M a vs → Q.rd lo hi M a vs) : Good enc t Q := fun W n cs d p hf hp => (h W n cs d p hf hp).mono fun M vs ⟨a, ha⟩ => ⟨a, hi _ _ _ _ _ ha⟩
section
variable {H : Type} {enc : TypeId × Value → H}
theorem good_i64 : Good enc 2 intP := good_int Try.underlying2
theorem good_ints : Good enc 24 (RecP.sl intP) := good_sl Try.underlying24 (by kernel_rfl) (by omega) trivial good_i64
theorem good_tabs : Good enc 22 (RecP.sl tabP) := good_sl Try.underlying22 (by kernel_rfl) (by omega) trivial good_ints
theorem good_node : Good enc 175 nodeP := by
  refine (good_map (fun n : Node => (n.k, n.a, n.b, n.from_, ())) (fun x => ⟨x.1, x.2.1, x.2.2.1, x.2.2.2.1⟩) (fun x => rfl) (good_struct Try.underlying175 (by kernel_rfl) (.cons rfl (by kernel_rfl) good_i64 (.cons rfl (by kernel_rfl) good_i64 (.cons rfl (by kernel_rfl) good_i64 (.cons rfl (by kernel_rfl) good_ints .nil)))))).imp ?_
  rintro lo hi M a vs ⟨_, _, rfl, rfl, _, _, rfl, rfl, _, _, rfl, rfl, _, _, rfl, ⟨u, rfl, h⟩, rfl⟩
  exact ⟨u, rfl, h⟩
theorem good_seg : Good enc 178 segP := by
  refine (good_map (fun n : Segment => (n.ln, n.tg, ())) (fun x => ⟨x.1, x.2.1⟩) (fun x => rfl) (good_struct Try.underlying178 (by kernel_rfl) (.cons rfl (by kernel_rfl) good_i64 (.cons rfl (by kernel_rfl) good_i64 .nil)))).imp ?_
  rintro lo hi M a vs ⟨_, _, rfl, rfl, _, _, rfl, rfl, rfl⟩
  rfl
theorem good_patch : Good enc 26 patchP := by
  refine (good_map (fun n : Patch => (n.inp, n.tabs, n.nodes, n.outs, ())) (fun x => ⟨x.1, x.2.1, x.2.2.1, x.2.2.2.1⟩) (fun x => rfl) (good_struct Try.underlying26 (by kernel_rfl) (.cons rfl (by kernel_rfl) good_i64 (.cons rfl (by kernel_rfl) good_tabs (.cons rfl (by kernel_rfl) (good_sl Try.underlying23 (by kernel_rfl) (by omega) trivial good_node) (.cons rfl (by kernel_rfl) good_ints .nil)))))).imp ?_
  rintro lo hi M a vs ⟨_, _, rfl, rfl, _, _, rfl, ⟨u, rfl, h1⟩, _, _, rfl, ⟨v, rfl, h2⟩, _, _, rfl, ⟨w, rfl, h3⟩, rfl⟩
  exact ⟨u, v, w, rfl, h1, h2, h3⟩
theorem good_env : Good enc 29 envP := by
  refine (good_map (fun n : Envl => (n.st, n.segs, n.rel, ())) (fun x => ⟨x.1, x.2.1, x.2.2.1⟩) (fun x => rfl) (good_struct Try.underlying29 (by kernel_rfl) (.cons rfl (by kernel_rfl) good_i64 (.cons rfl (by kernel_rfl) (good_sl Try.underlying27 (by kernel_rfl) (by omega) trivial good_seg) (.cons rfl (by kernel_rfl) good_i64 .nil))))).imp ?_
  rintro lo hi M a vs ⟨_, _, rfl, rfl, _, _, rfl, ⟨u, rfl, h1⟩, _, _, rfl, rfl, rfl⟩
  exact ⟨u, rfl, h1⟩
theorem good_inst : Good enc 31 instP := by
  refine (good_map (fun n : Inst => (n.pat, n.env, n.steps, ())) (fun x => ⟨x.1, x.2.1, x.2.2.1⟩) (fun x => rfl) (good_struct Try.underlying31 (by kernel_rfl) (.cons rfl (by kernel_rfl) good_patch (.cons rfl (by kernel_rfl) good_env (.cons rfl (by kernel_rfl) good_ints .nil))))).imp ?_
  rintro lo hi M a vs ⟨ps, _, rfl, h1, es, _, rfl, h2, _, _, rfl, ⟨u, rfl, h3⟩, rfl⟩
  exact ⟨ps, es, u, by simp, h1, h2, h3⟩
end
end Go.Proofs.Ytffbocbjmhkikaa
