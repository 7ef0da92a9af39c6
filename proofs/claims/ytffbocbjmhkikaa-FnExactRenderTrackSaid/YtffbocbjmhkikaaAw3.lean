/- Operations over abstract states: what each computes, and that the model's operation does just that. No conditions. -/
import Derived.Test.YtffbocbjmhkikaaAw2
import Derived.Deep.AppendSrc
namespace Go.Proofs.Ytffbocbjmhkikaa
open Go.RowKit
set_option linter.unusedVariables false
set_option linter.unusedSimpArgs false

structure St where
  n : Nat
  T : List (Nat × Value)
  M : Mem
def look : List (Nat × Value) → Nat → Option Value
  | [], _ => none
  | (u, v) :: T, t => if t = u then some v else look T t
def St.get (S : St) (t : Nat) : Option Value := if t < S.n then look S.T t else none
def plainD (v : Value) : Bool := plainV v || (match v with | .agg cs => cs.all plainV | .tuple cs => cs.size == 0 | _ => false)
def St.ev (S : St) : Operand → Option Value
  | .tmp t => S.get t
  | .const v => if plainD v = true then some v else none
  | .func f => some (.func (.func f) #[] #[])
  | .global _ => none
def St.put (S : St) (d : Option Tmp) (v : Value) : St :=
  match d with
  | some d => { S with T := (d, v) :: S.T }
  | none => S
structure Env (S : St) (μ : Map) (a : Act) : Prop where
  size : a.tmps.size = S.n
  val : ∀ t v, look S.T t = some v → t < S.n → ∃ c, a.tmps[t]? = some c ∧ VRel S.M μ v c
  defers : a.defers = []

theorem VRel.of_plainD {M : Mem} {μ : Map} {v : Value} (h : plainD v = true) : VRel M μ v v := by
  unfold plainD at h
  rw [Bool.or_eq_true] at h
  rcases h with h | h
  · exact .plain h
  · split at h
    · rename_i cs
      refine .agg rfl fun i x y hx hy => ?_
      rw [hx] at hy
      injection hy with hy
      subst hy
      obtain ⟨hi, rfl⟩ := Array.getElem?_eq_some_iff.1 hx
      exact .plain (Array.all_eq_true.1 h i hi)
    · rename_i cs
      refine .tup rfl fun i x y hx hy => ?_
      have : cs.size = 0 := by simpa using h
      have := (Array.getElem?_eq_some_iff.1 hx).1
      omega
    · cases h

section
variable {S : St} {μ : Map} {a : Act}
theorem Env.ev (h : Env S μ a) {x : Operand} {v : Value} (hx : S.ev x = some v) : VRel S.M μ v (a.eval x) := by
  cases x with
  | tmp t =>
    simp only [St.ev, St.get] at hx
    split at hx
    · rename_i hlt
      obtain ⟨c, h1, h2⟩ := h.val t v hx hlt
      show VRel S.M μ v (a.tmps.getD t undef)
      rw [Array.getD_eq_getD_getElem?, h1]
      exact h2
    · cases hx
  | const u =>
    simp only [St.ev] at hx
    split at hx
    · rename_i hp
      injection hx with hx
      subst hx
      exact .of_plainD hp
    · cases hx
  | func f =>
    simp only [St.ev] at hx
    injection hx with hx
    subst hx
    exact .fn rfl (fun i x y h => by simp at h) rfl (fun i x y h => by simp at h)
  | global g => simp [St.ev] at hx
theorem Env.put {M' : Mem} {μ' : Map} {b : Nat} {w w' : World} (h : Env S μ a) (hst : Step b S.M μ w M' μ' w') {v c : Value} (hv : VRel M' μ' v c) (d : Option Tmp) :
    Env (St.put { S with M := M' } d v) μ' (a.put d c) := by
  cases d with
  | none => exact ⟨h.size, fun t u hu ht => by
      obtain ⟨c0, h1, h2⟩ := h.val t u hu ht
      exact ⟨c0, h1, h2.step hst⟩, h.defers⟩
  | some d =>
    refine ⟨by simp [Act.put, St.put, h.size], fun t u hu ht => ?_, by simpa [Act.put] using h.defers⟩
    simp only [St.put, look] at hu ht ⊢
    split at hu
    · rename_i e
      subst e
      injection hu with hu
      subst hu
      refine ⟨c, ?_, hv⟩
      simp only [Act.put]
      rw [Array.getElem?_setIfInBounds_self, if_pos (by rw [h.size]; exact ht)]
    · rename_i e
      obtain ⟨c0, h1, h2⟩ := h.val t u hu ht
      refine ⟨c0, ?_, h2.step hst⟩
      simp only [Act.put]
      rw [Array.getElem?_setIfInBounds_ne (fun h => e h.symm)]
      exact h1
end

/-- A mark that keeps simp out of an argument. -/
def Tk {α : Type} (_ : α) : Type := Unit
def tk {α : Type} {a : α} : Tk a := ()
/-- With what an option holds. -/
def ow {α : Type} (o : Option α) (K : α → Prop) (_ : Tk K := tk) : Prop :=
  match o with
  | some a => K a
  | none => False
@[simp] theorem ow_some {α : Type} (a : α) (K : α → Prop) : ow (some a) K = K a := (rfl)
@[simp] theorem ow_none {α : Type} (K : α → Prop) : ow none K = False := (rfl)
theorem ow_iff {α : Type} {o : Option α} {K : α → Prop} : ow o K ↔ ∃ a, o = some a ∧ K a := by
  cases o <;> simp [ow]

def cellAt (M : Mem) (id off : Nat) : Option Value :=
  match M[id]? with
  | some (.live r) => r.cells[off]?
  | _ => none
def cellsAt (M : Mem) (id off k : Nat) : Option (List Value) :=
  match M[id]? with
  | some (.live r) => if off + k ≤ r.cells.length then some ((r.cells.drop off).take k) else none
  | _ => none
def oneV (v : Value) : Bool :=
  match v with
  | .agg _ => false
  | .tuple _ => false
  | _ => true
def putCells (b : Nat) (M : Mem) (id off : Nat) (vs : List Value) : Option Mem :=
  match M[id]? with
  | some (.live r) => if b ≤ id ∧ r.own = true ∧ off + vs.length ≤ r.cells.length ∧ vs.all oneV = true then some (M.set id (.live { r with cells := splice r.cells off vs })) else none
  | _ => none

/-- What is asked of a type: loaded as one cell (none) or as some. -/
def qLoad (P : Program) (t : TypeId) : Option (Option Nat) :=
  match P.underlying t with
  | some (.struct _) => (P.info? t).map fun i => some i.size
  | some (.array ..) => (P.info? t).map fun i => some i.size
  | some _ => (P.info? t).map fun _ => none
  | none => none
def qSize (P : Program) (t : TypeId) : Option Nat := (P.info? t).map (·.size)
def qZero (P : Program) (t : TypeId) : Option (List Value) :=
  match P.info? t with
  | some i => match i.zero with
    | some z => if z.cells.toList.all plainV = true then some z.cells.toList else none
    | none => none
  | none => none
/-- A slice's element type, its cells and bytes. -/
def qSlice (P : Program) (t : TypeId) : Option (TypeId × Nat × Nat) :=
  match P.underlying t with
  | some (.slice e) => match P.info? e with
    | some i => if 0 < i.size then some (e, i.size, i.bytes) else none
    | none => none
  | _ => none
/-- A field's offset, and how it is read. -/
def qField (P : Program) (t : TypeId) (f : Nat) : Option (Nat × Option Nat) :=
  match P.underlying t with
  | some (.struct fs) => match fs[f]? with
    | some f => match qLoad P f.type with
      | some k => if (P.info? f.type).any (fun i => i.size != 0) then some (f.offset, k) else none
      | none => none
    | none => none
  | _ => none
/-- How a struct is built: its zero, and its fields' places. -/
def qBuild (P : Program) (t : TypeId) : Option (Array Value × Array (Nat × Nat)) :=
  match P.underlying t with
  | some (.struct fs) => match P.info? t with
    | some i => match i.zero with
      | some z => if z.cells.toList.all plainV = true && fs.all (fun f => (P.info? f.type).isSome) then some (z.cells, fs.map fun f => (f.offset, P.cellsOf f.type)) else none
      | none => none
    | none => none
  | _ => none

/-- The operation runs as K says, whatever world the abstract state stands for. -/
def OpRun (P : Program) (b : Nat) (o : Oper) (S : St) (K : Value → Mem → Prop) : Prop :=
  ∀ μ a w, Env S μ a → Sim S.M μ w → ∃ nx w' v c M' μ', (execOp a.eval o).run P w = .ok nx w' ∧ (nx = .value c ∨ nx = .skip ∧ c = undef) ∧ K v M' ∧ VRel M' μ' v c ∧ Sim M' μ' w' ∧ Step b S.M μ w M' μ' w'

section
variable {P : Program} {b : Nat} {o : Oper} {S : St} {K : Value → Mem → Prop}
theorem OpRun.pure {v : Value} (h : ∀ μ a w, Env S μ a → Sim S.M μ w → ∃ c, (execOp a.eval o).run P w = .ok (.value c) w ∧ VRel S.M μ v c) (hK : K v S.M) : OpRun P b o S K := by
  intro μ a w hE hS
  obtain ⟨c, h1, h2⟩ := h μ a w hE hS
  exact ⟨_, w, v, c, S.M, μ, h1, .inl rfl, hK, h2, hS, .refl⟩

theorem Sim.cell {M : Mem} {μ : Map} {w : World} (h : Sim M μ w) {id off : Nat} {v : Value} (hc : cellAt M id off = some v) :
    ∃ r, M[id]? = some (.live r) ∧ ∃ d, w.cell? ((μ.at_ id).add off) = some d ∧ VRel M μ v d := by
  unfold cellAt at hc
  split at hc
  · rename_i r hr
    exact ⟨r, hr, (h.row id r hr).cell off v hc⟩
  · cases hc

theorem or_move {x : Operand} (ho : o.op = .move x ∨ o.op = .assign x) (h : ow (S.ev x) fun v => K v S.M) : OpRun P b o S K := by
  obtain ⟨v, hv, hK⟩ := ow_iff.1 h
  refine .pure (v := v) (fun μ a w hE hS => ⟨_, ?_, hE.ev hv⟩) hK
  rcases ho with ho | ho <;> simp [execOp, ho]
theorem or_pick {c x y : Operand} (ho : o.op = .pick c x y) (h : ow (S.ev c) fun cv => ow (S.ev x) fun u => ow (S.ev y) fun v => match cv with | .bool t => K (if t = true then u else v) S.M | _ => False) : OpRun P b o S K := by
  obtain ⟨cv, hc, h⟩ := ow_iff.1 h
  obtain ⟨u, hu, h⟩ := ow_iff.1 h
  obtain ⟨v, hv, h⟩ := ow_iff.1 h
  split at h
  · rename_i t _ _
    refine .pure (fun μ a w hE hS => ⟨if t = true then a.eval x else a.eval y, ?_, ?_⟩) h
    · have := (hE.ev hc).bool
      simp [execOp, ho, this, asBool]
    · split
      · exact hE.ev hu
      · exact hE.ev hv
  · exact h.elim
theorem or_box {t : TypeId} {x : Operand} (ho : o.op = .box t x) (h : ow (S.ev x) fun v => K (.pointer (some ⟨S.M.length, 0, none⟩)) (S.M ++ [.live ⟨v.cells.toList, true, true, t, v.cells.size⟩])) : OpRun P b o S K := by
  obtain ⟨v, hv, hK⟩ := ow_iff.1 h
  intro μ a w hE hS
  have hr := (hE.ev hv).cells
  obtain ⟨h1, h2⟩ := hS.alloc (b := b) (xs := v.cells.toList) (cur := (a.eval x).cells) (elem := t) (esz := v.cells.size) (tight := true) (by have := hr.1; simpa using Nat.le_of_eq this) (fun _ => by simpa using hr.1)
    (fun j c hc => by obtain ⟨d, hd, hh⟩ := hr.at_ hc; exact ⟨d, by simpa using hd, hh⟩)
  refine ⟨.value (.pointer (some ⟨w.heap.size, 0, none⟩)), _, _, _, _, _, ?_, .inl rfl, hK, ?_, h1, h2⟩
  · simp [execOp, ho, Instr.box, newVar, newRow]
  · exact .ptr getElem?_snoc_eq rfl fun r _ => by rw [Map.set_at, Addr.add_lit]
theorem or_alloc {t : TypeId} (ho : o.op = .alloc t) (h : ow (qZero P t) fun cs => K (.pointer (some ⟨S.M.length, 0, none⟩)) (S.M ++ [.live ⟨cs, true, true, t, cs.length⟩])) : OpRun P b o S K := by
  obtain ⟨cs, hq, hK⟩ := ow_iff.1 h
  intro μ a w hE hS
  unfold qZero at hq
  split at hq
  · rename_i i hi
    split at hq
    · rename_i z hz
      split at hq
      · rename_i hp
        injection hq with hq
        obtain ⟨h1, h2⟩ := hS.alloc (b := b) (xs := cs) (cur := z.cells) (elem := t) (esz := cs.length) (tight := true) (by rw [← hq]; simp) (fun _ => by rw [← hq]; simp)
          (fun j c hc => ⟨c, by rw [← hq] at hc; simpa using hc, .plain (by rw [← hq] at hc; exact List.all_eq_true.1 hp c (List.mem_of_getElem? hc))⟩)
        refine ⟨.value (.pointer (some ⟨w.heap.size, 0, none⟩)), _, _, _, _, _, ?_, .inl rfl, hK, ?_, h1, h2⟩
        · simp [execOp, ho, Instr.alloc, zeroValue, typeInfo, hi, hz, newVar, newRow]
        · exact .ptr getElem?_snoc_eq rfl fun r _ => by rw [Map.set_at, Addr.add_lit]
      · cases hq
    · cases hq
  · cases hq

theorem run_loadCells {w : World} (a : Addr) (vs : List Value) (h : ∀ (j : Nat) u, vs[j]? = some u → w.cell? (a.add j) = some u) : (loadCells a vs.length).run P w = .ok vs.toArray w := by
  have key : ∀ (us : List Value) (i : Nat) (acc : Array Value), (∀ (j : Nat) u, us[j]? = some u → w.cell? (a.add (i + j)) = some u) → (loadCellsFrom a i us.length acc).run P w = .ok (acc ++ us.toArray) w := by
    intro us
    induction us with
    | nil => intro i acc _; simp [loadCellsFrom]
    | cons u us ih =>
      intro i acc hu
      have h0 := hu 0 u rfl
      simp only [Nat.add_zero] at h0
      simp only [List.length_cons, loadCellsFrom, Sem.run_bind, run_load, h0, Result.andThen_ok]
      rw [ih (i + 1) (acc.push u) fun j v hv => by have := hu (j + 1) v (by simpa using hv); rwa [show i + 1 + j = i + (j + 1) by omega]]
      congr 1
      apply Array.ext'
      simp
  have := key vs 0 #[] (by simpa using h)
  simpa [loadCells] using this

theorem Sim.cells {M : Mem} {μ : Map} {w : World} (h : Sim M μ w) {id off k : Nat} {vs : List Value} (hc : cellsAt M id off k = some vs) :
    ∃ r, M[id]? = some (.live r) ∧ vs.length = k ∧ ∃ ds, LRel M μ vs ds ∧ ∀ (j : Nat) u, ds[j]? = some u → w.cell? ((μ.at_ id).add (off + j)) = some u := by
  unfold cellsAt at hc
  split at hc
  · rename_i r hr
    split at hc
    · rename_i hle
      injection hc with hc
      have hlen : vs.length = k := by rw [← hc]; simp; omega
      refine ⟨r, hr, hlen, (List.range k).map fun j => (w.cell? ((μ.at_ id).add (off + j))).getD undef, ?_, ?_⟩
      · refine ⟨by simp [hlen], fun i x y hx hy => ?_⟩
        have hi : i < k := by have := (List.getElem?_eq_some_iff.1 hx).1; omega
        have hx' : r.cells[off + i]? = some x := by
          rw [← hc, List.getElem?_take, if_pos hi, List.getElem?_drop] at hx
          exact hx
        obtain ⟨d, hd, hrel⟩ := (h.row id r hr).cell (off + i) x hx'
        simp [hi, hd] at hy
        rw [← hy]
        exact hrel
      · intro j u hu
        have hj : j < k := by have := (List.getElem?_eq_some_iff.1 hu).1; simpa using this
        have hx' : r.cells[off + j]? = some (r.cells[off + j]'(by omega)) := List.getElem?_eq_getElem _
        obtain ⟨d, hd, hrel⟩ := (h.row id r hr).cell (off + j) _ hx'
        simp [hj, hd] at hu
        rw [hd, hu]
    · cases hc
  · cases hc

def loadK (P : Program) (S : St) (t : TypeId) (K : Value → Mem → Prop) (v : Value) : Prop :=
  match v with
  | .pointer (some ⟨id, off, none⟩) => ow (qLoad P t) fun k => match k with
    | some k => ow (cellsAt S.M id off k) fun cs => K (.agg cs.toArray) S.M
    | none => ow (cellAt S.M id off) fun c => K c S.M
  | _ => False
theorem qLoad_some {t : TypeId} {k : Option Nat} (h : qLoad P t = some k) : ∃ d i, P.underlying t = some d ∧ P.info? t = some i ∧
    ((∃ n, k = some n ∧ i.size = n ∧ ((∃ fs, d = .struct fs) ∨ ∃ n e, d = .array n e)) ∨ (k = none ∧ (∀ fs, d ≠ .struct fs) ∧ ∀ n e, d ≠ .array n e)) := by
  unfold qLoad at h
  split at h
  · rename_i fs hd
    cases hi : P.info? t with
    | none => rw [hi] at h; cases h
    | some i => rw [hi] at h; injection h with h; exact ⟨_, i, hd, rfl, .inl ⟨_, h.symm, rfl, .inl ⟨_, rfl⟩⟩⟩
  · rename_i n e hd
    cases hi : P.info? t with
    | none => rw [hi] at h; cases h
    | some i => rw [hi] at h; injection h with h; exact ⟨_, i, hd, rfl, .inl ⟨_, h.symm, rfl, .inr ⟨_, _, rfl⟩⟩⟩
  · rename_i d h1 h2 hd
    cases hi : P.info? t with
    | none => rw [hi] at h; cases h
    | some i => rw [hi] at h; injection h with h; exact ⟨_, i, hd, rfl, .inr ⟨h.symm, h1, h2⟩⟩
  · cases h
theorem run_isAgg {t : TypeId} {d : TypeDesc} (h : P.underlying t = some d) (w : World) : (isAgg t).run P w = .ok (match d with | .struct _ => true | .array .. => true | _ => false) w := by
  simp only [isAgg, Sem.run_bind, run_underlying h, Result.andThen_ok]
  cases d <;> rfl
theorem or_load {t : TypeId} {x : Operand} (ho : o.op = .load t x) (h : ow (S.ev x) (loadK P S t K)) : OpRun P b o S K := by
  obtain ⟨v, hv, h⟩ := ow_iff.1 h
  unfold loadK at h
  split at h
  · rename_i id off
    obtain ⟨k, hk, h⟩ := ow_iff.1 h
    obtain ⟨d, i, hd, hi, hcase⟩ := qLoad_some hk
    rcases hcase with ⟨n, rfl, hn, hagg⟩ | ⟨rfl, hn1, hn2⟩
    · obtain ⟨cs, hcs, hK⟩ := ow_iff.1 h
      refine .pure (fun μ a w hE hS => ?_) hK
      obtain ⟨-, ad, s, he, hs, hkn, hat⟩ := (hE.ev hv).ptr_inv
      obtain ⟨r, hr, hlen, ds, hrel, hcell⟩ := hS.cells hcs
      rw [hr] at hs
      injection hs with hs
      have := hat r hs.symm
      refine ⟨.agg ds.toArray, ?_, .mk_agg hrel⟩
      have hl : ds.length = n := by rw [← hrel.1, hlen]
      have hrun := run_loadCells (P := P) (w := w) ad ds (by intro j u hu; rw [this, add_add_]; exact hcell j u hu)
      rw [hl] at hrun
      have hA := run_isAgg hd w
      have hA' : (isAgg t).run P w = .ok true w := by rw [hA]; rcases hagg with ⟨fs, rfl⟩ | ⟨n, e, rfl⟩ <;> rfl
      simp [execOp, ho, Instr.loadAt, Instr.sureAddr, he, loadVar, hA', sizeOf, typeInfo, hi, hn, hrun]
    · obtain ⟨c, hc, hK⟩ := ow_iff.1 h
      refine .pure (fun μ a w hE hS => ?_) hK
      obtain ⟨-, ad, s, he, hs, hkn, hat⟩ := (hE.ev hv).ptr_inv
      obtain ⟨r, hr, e, hcell, hrel⟩ := hS.cell hc
      rw [hr] at hs
      injection hs with hs
      have := hat r hs.symm
      refine ⟨e, ?_, hrel⟩
      have hA := run_isAgg hd w
      have hA' : (isAgg t).run P w = .ok false w := by
        rw [hA]
        cases d <;> first | rfl | exact absurd rfl (hn1 _) | exact absurd rfl (hn2 _ _)
      rw [← this] at hcell
      simp [execOp, ho, Instr.loadAt, Instr.sureAddr, he, loadVar, hA', hcell]
  · exact h.elim

theorem set_self {α : Type} {l : List α} {i : Nat} {x : α} (h : l[i]? = some x) : l.set i x = l := by
  apply List.ext_getElem?
  intro j
  rw [List.getElem?_set]
  split
  · rename_i e
    subst e
    rw [h, if_pos (List.getElem?_eq_some_iff.1 h).1]
  · rfl
theorem Sim.storeAll {M : Mem} {μ : Map} {id : Nat} : ∀ (vs cs : List Value) (off : Nat) (M : Mem) (w : World) (r : Row), Sim M μ w → M[id]? = some (.live r) → r.own = true → b ≤ id → off + vs.length ≤ r.cells.length → LRel M μ vs cs → vs.all oneV = true →
    ∃ w', (∀ i, (storeCells ((μ.at_ id).add off) cs i).run P w = (storeCells ((μ.at_ id).add (off + i)) cs 0).run P w) ∧ (storeCells ((μ.at_ id).add off) cs 0).run P w = .ok () w' ∧ Sim (M.set id (.live { r with cells := splice r.cells off vs })) μ w' ∧ Step b M μ w (M.set id (.live { r with cells := splice r.cells off vs })) μ w' := by
  have shift : ∀ (cs : List Value) (a : Addr) (i j : Nat) (w : World), (storeCells (a.add j) cs i).run P w = (storeCells a cs (j + i)).run P w := by
    intro cs
    induction cs with
    | nil => intro a i j w; simp [storeCells]
    | cons c cs ih =>
      intro a i j w
      simp only [storeCells, Sem.run_bind, add_add_]
      congr 1
      funext _ w'
      rw [ih, show j + (i + 1) = j + i + 1 by omega]
  intro vs
  induction vs with
  | nil =>
    intro cs off M w r hS hr _ _ _ hrel _
    have : cs = [] := List.eq_nil_of_length_eq_zero hrel.1.symm
    subst this
    refine ⟨w, fun i => by simp [storeCells], by simp [storeCells], ?_, ?_⟩
    all_goals
      have e : M.set id (.live { r with cells := splice r.cells off [] }) = M := by
        simp only [splice]
        exact set_self hr
      rw [e]
    · exact hS
    · exact .refl
  | cons v vs ih =>
    intro cs off M w r hS hr ho hb hle hrel hone
    have hid := (List.getElem?_eq_some_iff.1 hr).1
    match cs, hrel with
    | [], hrel => exact absurd hrel.1 (by simp)
    | c :: cs, hrel =>
      have hv : VRel M μ v c := hrel.2 0 v c rfl rfl
      simp only [List.length_cons] at hle
      simp only [List.all_cons, Bool.and_eq_true] at hone
      obtain ⟨h1, h2, ⟨d, hd⟩, hf⟩ := hS.store hr ho hb (j := off) (by omega) hv
      have hr' : (M.set id (.live { r with cells := r.cells.set off v }))[id]? = some (.live { r with cells := r.cells.set off v }) := List.getElem?_set_self hid
      have hrel' : LRel (M.set id (.live { r with cells := r.cells.set off v })) μ vs cs := LRel.step (b := b) ⟨by simpa using hrel.1, fun i x y hx hy => hrel.2 (i + 1) x y (by simpa using hx) (by simpa using hy)⟩ h2
      obtain ⟨w', -, h4, h5, h6⟩ := ih cs (off + 1) _ _ _ h1 hr' ho hb (by simp; omega) hrel' hone.2
      have hc1 : ∀ xs, c ≠ .agg xs := by rintro xs rfl; cases hv with
        | plain hp => simp [plainV] at hp
        | agg => simp [oneV] at hone
      have hc2 : ∀ xs, c ≠ .tuple xs := by rintro xs rfl; cases hv with
        | plain hp => simp [plainV] at hp
        | tup => simp [oneV] at hone
      have hst : Sem.run P (Go.store ((μ.at_ id).add off) c) w = Result.ok () (w.setCell ((μ.at_ id).add off) c) := by
        cases c <;> first | exact absurd rfl (hc1 _) | exact absurd rfl (hc2 _) | simp [Go.store, Sem.run, hd, hf]
      refine ⟨w', fun i => by rw [shift, shift]; congr 1, ?_, ?_, ?_⟩
      · simp only [storeCells, Sem.run_bind, add_add_, Nat.add_zero, hst, Result.andThen_ok]
        rw [shift, Nat.zero_add]
        rw [shift] at h4
        simpa using h4
      · simpa [splice] using h5
      · have := h2.trans h6
        simpa [splice] using this

def storeK (P : Program) (b : Nat) (S : St) (t : TypeId) (K : Value → Mem → Prop) (p v : Value) : Prop :=
  match p with
  | .pointer (some ⟨id, off, none⟩) => qSize P t = some v.cells.size ∧ ow (putCells b S.M id off v.cells.toList) fun M' => K undef M'
  | _ => False
theorem or_store {t : TypeId} {x y : Operand} (ho : o.op = .store t x y) (h : ow (S.ev x) fun p => ow (S.ev y) fun v => storeK P b S t K p v) : OpRun P b o S K := by
  obtain ⟨p, hp, h⟩ := ow_iff.1 h
  obtain ⟨v, hv, h⟩ := ow_iff.1 h
  unfold storeK at h
  split at h
  · rename_i id off _
    obtain ⟨hq, h⟩ := h
    obtain ⟨M', hM, hK⟩ := ow_iff.1 h
    intro μ a w hE hS
    obtain ⟨-, ad, s, he, hs, hkn, hat⟩ := (hE.ev hp).ptr_inv
    have hrel := (hE.ev hv).cells
    unfold putCells at hM
    split at hM
    · rename_i r hr
      split at hM
      · rename_i hc
        injection hM with hM
        subst hM
        rw [hr] at hs
        injection hs with hs
        have hA := hat r hs.symm
        obtain ⟨w', -, h4, h5, h6⟩ := Sim.storeAll (P := P) (b := b) (M := S.M) (id := id) v.cells.toList (a.eval y).cells.toList off S.M w r hS hr hc.2.1 hc.1 hc.2.2.1 hrel hc.2.2.2
        rw [← hA] at h4
        refine ⟨.skip, w', undef, undef, _, μ, ?_, .inr ⟨rfl, rfl⟩, hK, .tup rfl (fun i x y h => by simp at h), h5, h6⟩
        unfold qSize at hq
        cases hi : P.info? t with
        | none => rw [hi] at hq; cases hq
        | some i =>
          rw [hi] at hq
          simp only [Option.map_some, Option.some.injEq] at hq
          have hsz : (a.eval y).cells.size = i.size := by have := hrel.1; simp at this; omega
          simp [execOp, ho, Instr.storeAt, Instr.sureAddr, he, storeVar, sizeOf, typeInfo, hi, hsz, h4]
      · cases hM
    · cases hM
  · exact h.elim
end
end Go.Proofs.Ytffbocbjmhkikaa
