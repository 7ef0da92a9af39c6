/- Parts of the proof, together: Operations on values over abstract states. More operations over abstract states: conversions, addresses, slices, builds. append over abstract states. Slices, lengths, builds over abstract states. No conditions. -/
import Derived.Test.YtodbjnngkonklaaGreatZzI0
import Derived.MapKept
namespace Go.Proofs.YtodbjnngkonklaaGreat
open Go.RowKit
set_option linter.unusedVariables false
set_option linter.unusedSimpArgs false

def intV (op : BinOp) (k : IntKind) (a c : Int) : Option Value :=
  match op with
  | .add => some (.int k (k.wrap (a + c)))
  | .sub => some (.int k (k.wrap (a - c)))
  | .mul => some (.int k (k.wrap (a * c)))
  | .quo => if c = 0 then none else some (.int k (k.wrap (a.tdiv c)))
  | .rem => if c = 0 then none else some (.int k (a.tmod c))
  | .and => some (.int k (k.wrap (BitVec.ofInt k.bits a &&& BitVec.ofInt k.bits c).toNat))
  | .or => some (.int k (k.wrap (BitVec.ofInt k.bits a ||| BitVec.ofInt k.bits c).toNat))
  | .xor => some (.int k (k.wrap (BitVec.ofInt k.bits a ^^^ BitVec.ofInt k.bits c).toNat))
  | .andNot => some (.int k (k.wrap (BitVec.ofInt k.bits a &&& ~~~ BitVec.ofInt k.bits c).toNat))
  | .shl => if c < 0 then none else some (.int k (k.wrap (a * 2 ^ (min c.toNat k.bits))))
  | .shr => if c < 0 then none else some (.int k (a.fdiv (2 ^ (min c.toNat k.bits))))
  | .eql => some (.bool (decide (a = c)))
  | .neq => some (.bool (!decide (a = c)))
  | .lss => some (.bool (decide (a < c)))
  | .leq => some (.bool (decide (a ≤ c)))
  | .gtr => some (.bool (decide (c < a)))
  | .geq => some (.bool (decide (c ≤ a)))
def isShift : BinOp → Bool
  | .shl => true
  | .shr => true
  | _ => false
def strV (op : BinOp) (x y : ByteArray) : Option Value :=
  match op with
  | .add => if ((x.size + y.size : Nat) : Int) > IntKind.i64.max then none else some (.string (x ++ y))
  | .eql => some (.bool (x.toList == y.toList))
  | .neq => some (.bool (!(x.toList == y.toList)))
  | .lss => some (.bool (Op.bytesLess x.toList y.toList))
  | .leq => some (.bool (Op.bytesLess x.toList y.toList || x.toList == y.toList))
  | .gtr => some (.bool (!(Op.bytesLess x.toList y.toList || x.toList == y.toList)))
  | .geq => some (.bool (!Op.bytesLess x.toList y.toList))
  | _ => none
open Classical in
/-- Are two structs of cells without addresses equal? -/
noncomputable def aggEq (P : Program) (t : TypeId) (xs ys : Array Value) : Option Bool :=
  if h : ∃ r, P.eqGuardType P.depth t = false ∧ xs.toList.all plainV = true ∧ ys.toList.all plainV = true ∧ ∀ w, (Op.equal t (.agg xs) (.agg ys)).run P w = .ok r w then some (Classical.choose h) else none
def ptrNil : Value → Option Bool
  | .pointer q => some q.isNone
  | _ => none
def slNil : Value → Option Bool
  | .slice q _ _ => some q.isNone
  | _ => none
def eqNil : Option Bool → Option Bool → Option Bool
  | some true, some q => some q
  | some false, some true => some false
  | _, _ => none
noncomputable def eqV (P : Program) (t : TypeId) (x y : Value) : Option Bool :=
  match P.underlying t with
  | some .bool => (match x, y with | .bool a, .bool c => some (a == c) | _, _ => none)
  | some (.pointer _) => eqNil (ptrNil x) (ptrNil y)
  | some (.slice _) => eqNil (slNil x) (slNil y)
  | some (.struct _) => (match x, y with | .agg xs, .agg ys => aggEq P t xs ys | _, _ => none)
  | _ => none
noncomputable def binV (P : Program) (op : BinOp) (t : TypeId) (x y : Value) : Option Value :=
  match x, y with
  | .int k a, .int k' c => if k = k' ∨ isShift op = true then intV op k a c else none
  | .string a, .string c => strV op a c
  | x, y => match op with
    | .eql => (eqV P t x y).map .bool
    | .neq => (eqV P t x y).map fun r => .bool (!r)
    | _ => none

section
variable {P : Program} {b : Nat} {o : Oper} {S : St} {K : Value → Mem → Prop}
theorem aggEq_of {t : TypeId} {xs ys : Array Value} {r : Bool} (h0 : P.eqGuardType P.depth t = false) (h1 : xs.toList.all plainV = true) (h2 : ys.toList.all plainV = true) (h : ∀ w, (Op.equal t (.agg xs) (.agg ys)).run P w = .ok r w) : aggEq P t xs ys = some r := by
  unfold aggEq
  have hex : ∃ r, P.eqGuardType P.depth t = false ∧ xs.toList.all plainV = true ∧ ys.toList.all plainV = true ∧ ∀ w, (Op.equal t (.agg xs) (.agg ys)).run P w = .ok r w := ⟨r, h0, h1, h2, h⟩
  rw [dif_pos hex]
  have := (Classical.choose_spec hex).2.2.2 default
  rw [h default] at this
  injection this with this
  rw [← this]
theorem aggEq_run {t : TypeId} {xs ys : Array Value} {r : Bool} (h : aggEq P t xs ys = some r) : P.eqGuardType P.depth t = false ∧ xs.toList.all plainV = true ∧ ys.toList.all plainV = true ∧ ∀ w, (Op.equal t (.agg xs) (.agg ys)).run P w = .ok r w := by
  unfold aggEq at h
  split at h
  · rename_i hex
    injection h with h
    rw [← h]
    exact Classical.choose_spec hex
  · cases h
theorem run_intV {op : BinOp} {t : TypeId} {k : IntKind} {a c : Int} {v : Value} (k' : IntKind) (hk : k = k' ∨ isShift op = true) (h : intV op k a c = some v) (w : World) : (binOp op t (.int k a) (.int k' c)).run P w = .ok v w := by
  rcases hk with rfl | hk
  · cases op <;> simp only [intV] at h <;> first
      | (split at h
         · cases h
         · injection h with h; subst h; simp [binOp, Op.intDiv, Op.shift, *])
      | (injection h with h; subst h; simp [binOp, Op.intArith, Op.intBits, Op.intCmp, bne, BEq.beq])
  · cases op <;> first
      | (exfalso; simp [isShift] at hk; done)
      | (simp only [intV] at h
         split at h
         · cases h
         · injection h with h; subst h; simp [binOp, Op.shift, *])
theorem run_strV {op : BinOp} {t : TypeId} {x y : ByteArray} {v : Value} (h : strV op x y = some v) (w : World) : (binOp op t (.string x) (.string y)).run P w = .ok v w := by
  have e : ∀ op, isShift op = false → binOp op t (.string x) (.string y) = Op.stringOp op x y := by intro op; cases op <;> first | (intro _; rfl) | (intro h; cases h)
  cases op with
  | add =>
    simp only [strV] at h
    split at h
    · cases h
    · rename_i hn
      injection h with h
      subst h
      rw [e _ rfl]
      simp only [Op.stringOp]
      rw [if_neg hn]
      rfl
  | eql => injection h with h; subst h; rfl
  | neq => injection h with h; subst h; rfl
  | lss => injection h with h; subst h; rfl
  | leq => injection h with h; subst h; rfl
  | gtr => injection h with h; subst h; rfl
  | geq => injection h with h; subst h; rfl
  | _ => cases h
theorem VRel.agg_plain {M : Mem} {μ : Map} {xs : Array Value} {c : Value} (h : VRel M μ (.agg xs) c) (hp : xs.toList.all plainV = true) : c = .agg xs := by
  obtain ⟨ys, rfl, h1, h2⟩ := h.agg_inv
  congr 1
  apply Array.ext'
  refine List.ext_getElem? fun i => ?_
  by_cases hi : i < xs.toList.length
  · have hx : xs.toList[i]? = some xs.toList[i] := List.getElem?_eq_getElem hi
    have hy : ys.toList[i]? = some (ys.toList[i]'(by omega)) := List.getElem?_eq_getElem _
    have := VRel.of_plain (List.all_eq_true.1 hp _ (List.getElem_mem hi)) (h2 i _ _ hx hy)
    rw [hx, hy, this]
  · rw [List.getElem?_eq_none (by omega), List.getElem?_eq_none (by omega)]
theorem VRel.ptrNil {M : Mem} {μ : Map} {x x' : Value} {q : Bool} (h : VRel M μ x x') (hq : ptrNil x = some q) : ∃ p, x' = .pointer p ∧ p.isNone = q := by
  cases x <;> simp only [Go.Proofs.YtodbjnngkonklaaGreat.ptrNil] at hq <;> try cases hq
  rename_i p
  cases p with
  | none => exact ⟨none, h.of_plain rfl, rfl⟩
  | some p =>
    obtain ⟨id, off, sp⟩ := p
    obtain ⟨-, a, s, e, -⟩ := h.ptr_inv
    exact ⟨some a, e, rfl⟩
theorem VRel.slNil {M : Mem} {μ : Map} {x x' : Value} {q : Bool} (h : VRel M μ x x') (hq : slNil x = some q) : ∃ p n c, x' = .slice p n c ∧ p.isNone = q := by
  cases x <;> simp only [Go.Proofs.YtodbjnngkonklaaGreat.slNil] at hq <;> try cases hq
  rename_i p n c
  cases p with
  | none =>
    cases h with
    | plain _ => exact ⟨none, _, _, rfl, rfl⟩
  | some p =>
    obtain ⟨id, off, sp⟩ := p
    obtain ⟨-, a, cp, s, e, -⟩ := h.sl_inv
    exact ⟨some a, _, _, e, rfl⟩
theorem eqNil_some {p q : Option Bool} {r : Bool} (h : eqNil p q = some r) : ∃ u v, p = some u ∧ q = some v ∧ ((u = true ∧ r = v) ∨ (u = false ∧ v = true ∧ r = false)) := by
  rcases p with _ | (_ | _) <;> rcases q with _ | (_ | _) <;> simp_all [eqNil]
theorem run_equal (t : TypeId) (x y : Value) : Op.equal t x y = Op.equalIn (9999 + 1) t x y := rfl
theorem run_eqV {t : TypeId} {x y x' y' : Value} {r : Bool} {M : Mem} {μ : Map} (h : eqV P t x y = some r) (hx : VRel M μ x x') (hy : VRel M μ y y') (w : World) :
    (Op.equal t x' y').run P w = .ok r w ∧ (∀ op ox oy, (eqGuard op t ox oy x' y').run P w = .ok () w) ∧ binOp .eql t x' y' = (do pure (.bool (← Op.equal t x' y'))) ∧ binOp .neq t x' y' = (do pure (.bool (!(← Op.equal t x' y')))) := by
  have gd : ∀ (x' y' : Value), (x' ≠ .nilIface) → (∀ xs, x' ≠ .agg xs) → ∀ op ox oy, (eqGuard op t ox oy x' y').run P w = .ok () w := by
    intro x' y' h1 h2 op ox oy
    unfold eqGuard
    cases x' <;> first | exact absurd rfl h1 | exact absurd rfl (h2 _) | (cases op <;> simp)
  unfold eqV at h
  cases ht : P.underlying t with
  | none => rw [ht] at h; cases h
  | some d =>
    rw [ht] at h
    cases d <;> try cases h
    case bool =>
      cases x <;> try cases h
      cases y <;> try cases h
      have e1 := hx.bool
      have e2 := hy.bool
      subst e1; subst e2
      exact ⟨by rw [run_equal, Op.equalIn]; simp only [Sem.run_bind, run_underlying ht, Result.andThen_ok, Sem.run_pure], gd _ _ (by simp) (by simp), rfl, rfl⟩
    case pointer e =>
      obtain ⟨u, v, hu, hv, hc⟩ := eqNil_some h
      obtain ⟨p, rfl, hp⟩ := hx.ptrNil hu
      obtain ⟨q, rfl, hq⟩ := hy.ptrNil hv
      refine ⟨?_, gd _ _ (by simp) (by simp), by cases p <;> cases q <;> rfl, by cases p <;> cases q <;> rfl⟩
      rw [run_equal, Op.equalIn]
      simp only [Sem.run_bind, run_underlying ht, Result.andThen_ok]
      cases p <;> cases q <;> simp_all
    case slice e =>
      obtain ⟨u, v, hu, hv, hc⟩ := eqNil_some h
      obtain ⟨p, n, c, rfl, hp⟩ := hx.slNil hu
      obtain ⟨q, m, d, rfl, hq⟩ := hy.slNil hv
      refine ⟨?_, gd _ _ (by simp) (by simp), by cases p <;> cases q <;> rfl, by cases p <;> cases q <;> rfl⟩
      rw [run_equal, Op.equalIn]
      simp only [Sem.run_bind, run_underlying ht, Result.andThen_ok]
      cases p <;> cases q <;> simp_all
    case struct fs =>
      cases x <;> try cases h
      cases y <;> try cases h
      rename_i xs ys
      obtain ⟨h0, h1, h2, h3⟩ := aggEq_run h
      have e1 := hx.agg_plain h1
      have e2 := hy.agg_plain h2
      subst e1; subst e2
      refine ⟨h3 w, fun op ox oy => ?_, rfl, rfl⟩
      unfold eqGuard
      cases op <;> simp [Go.program, Sem.run, h0]
theorem or_bin {op : BinOp} {t t' : TypeId} {x y : Operand} (ho : o.op = .binOp op t x y t') (h : ow (S.ev x) fun u => ow (S.ev y) fun v => ow (binV P op t u v) fun r => K r S.M) : OpRun P b o S K := by
  obtain ⟨u, hu, h⟩ := ow_iff.1 h
  obtain ⟨v, hv, h⟩ := ow_iff.1 h
  obtain ⟨r, hr, hK⟩ := ow_iff.1 h
  refine .pure (v := r) (fun μ a w hE hS => ⟨r, ?_, ?_⟩) hK
  · have rx := hE.ev hu
    have ry := hE.ev hv
    unfold binV at hr
    split at hr
    · rename_i k a1 k' c1 _
      split at hr
      · rename_i hk
        have := run_intV (P := P) (t := t) k' hk hr w
        have hg : (eqGuard op t x y (.int k a1) (.int k' c1)).run P w = .ok () w := by unfold eqGuard; cases op <;> simp
        simp only [execOp, ho, Sem.run_bind, rx.int, ry.int, hg, Result.andThen_ok, this, Sem.run_pure]
      · cases hr
    · rename_i a1 c1 _
      have := run_strV (P := P) (t := t) hr w
      have hg : (eqGuard op t x y (.string a1) (.string c1)).run P w = .ok () w := by unfold eqGuard; cases op <;> simp
      simp only [execOp, ho, Sem.run_bind, rx.string, ry.string, hg, Result.andThen_ok, this, Sem.run_pure]
    · split at hr
      · obtain ⟨q, hq, rfl⟩ := Option.map_eq_some_iff.1 hr
        obtain ⟨h1, h2, h3, h4⟩ := run_eqV hq rx ry w
        simp only [execOp, ho, Sem.run_bind, h2, Result.andThen_ok, h3, h1, Sem.run_pure]
      · obtain ⟨q, hq, rfl⟩ := Option.map_eq_some_iff.1 hr
        obtain ⟨h1, h2, h3, h4⟩ := run_eqV hq rx ry w
        simp only [execOp, ho, Sem.run_bind, h2, Result.andThen_ok, h4, h1, Sem.run_pure]
      · cases hr
  · refine .plain ?_
    unfold binV at hr
    split at hr
    · split at hr
      · cases op <;> simp only [intV] at hr <;> (try split at hr) <;> first | (injection hr with hr; subst hr; rfl) | cases hr
      · cases hr
    · cases op <;> simp only [strV] at hr <;> (try split at hr) <;> first | (injection hr with hr; subst hr; rfl) | cases hr
    · split at hr
      · obtain ⟨q, hq, rfl⟩ := Option.map_eq_some_iff.1 hr
        rfl
      · obtain ⟨q, hq, rfl⟩ := Option.map_eq_some_iff.1 hr
        rfl
      · cases hr
end
end Go.Proofs.YtodbjnngkonklaaGreat

namespace Go.Proofs.YtodbjnngkonklaaGreat
open Go.RowKit
set_option linter.unusedVariables false
set_option linter.unusedSimpArgs false

def unV (op : UnOp) (x : Value) : Option Value :=
  match op, x with
  | .neg, .int k n => some (.int k (k.wrap (0 - n)))
  | .not, .bool t => some (.bool (!t))
  | _, _ => none
def convV (P : Program) (src dst : TypeId) (x : Value) : Option Value :=
  match P.underlying src, P.underlying dst, x with
  | some (.int _), some (.int k), .int _ n => some (.int k (k.wrap n))
  | some .string, some .string, .string s => some (.string s)
  | _, _, _ => none
/-- A byte of a string. -/
def strAt (s : ByteArray) (i : Nat) : Int := ((s.data.toList.getD i 0).toNat : Int)

section
variable {P : Program} {b : Nat} {o : Oper} {S : St} {K : Value → Mem → Prop}
theorem or_un {op : UnOp} {t : TypeId} {x : Operand} (ho : o.op = .unOp op t x) (h : ow (S.ev x) fun u => ow (unV op u) fun r => K r S.M) : OpRun P b o S K := by
  obtain ⟨u, hu, h⟩ := ow_iff.1 h
  obtain ⟨r, hr, hK⟩ := ow_iff.1 h
  refine .pure (v := r) (fun μ a w hE hS => ⟨r, ?_, ?_⟩) hK
  · have rx := hE.ev hu
    unfold unV at hr
    split at hr
    · injection hr with hr
      subst hr
      simp [execOp, ho, rx.int, Op.unary, Op.intArith]
    · injection hr with hr
      subst hr
      simp [execOp, ho, rx.bool, Op.unary]
    · cases hr
  · unfold unV at hr
    split at hr
    · injection hr with hr; subst hr; exact .plain rfl
    · injection hr with hr; subst hr; exact .plain rfl
    · cases hr
theorem convV_inv {src dst : TypeId} {x r : Value} (h : convV P src dst x = some r) :
    (∃ k' k k2 n, P.underlying src = some (.int k') ∧ P.underlying dst = some (.int k) ∧ x = .int k2 n ∧ r = .int k (k.wrap n)) ∨ (∃ s, P.underlying src = some .string ∧ P.underlying dst = some .string ∧ x = .string s ∧ r = .string s) := by
  unfold convV at h
  split at h
  · injection h with h
    exact .inl ⟨_, _, _, _, by assumption, by assumption, rfl, h.symm⟩
  · injection h with h
    exact .inr ⟨_, by assumption, by assumption, rfl, h.symm⟩
  · cases h
theorem or_conv {src dst : TypeId} {x : Operand} (ho : o.op = .convert src dst x) (h : ow (S.ev x) fun u => ow (convV P src dst u) fun r => K r S.M) : OpRun P b o S K := by
  obtain ⟨u, hu, h⟩ := ow_iff.1 h
  obtain ⟨r, hr, hK⟩ := ow_iff.1 h
  rcases convV_inv hr with ⟨k', k, k2, n, h1, h2, rfl, rfl⟩ | ⟨s, h1, h2, rfl, rfl⟩
  · refine .pure (fun μ a w hE hS => ⟨_, ?_, .plain rfl⟩) hK
    simp [execOp, ho, (hE.ev hu).int, convert, run_underlying h1, run_underlying h2, Conv.intToInt]
  · refine .pure (fun μ a w hE hS => ⟨_, ?_, .plain rfl⟩) hK
    simp [execOp, ho, (hE.ev hu).string, convert, run_underlying h1, run_underlying h2]
def evs (S : St) (xs : List Operand) : Option (List Value) := xs.mapM S.ev
theorem evs_nil {S : St} : evs S [] = some [] := rfl
theorem evs_cons {S : St} {x : Operand} {xs : List Operand} : evs S (x :: xs) = (S.ev x).bind fun v => (evs S xs).map fun vs => v :: vs := by
  simp [evs, List.mapM_cons]
  cases S.ev x <;> simp
  cases List.mapM S.ev xs <;> rfl
theorem Env.evs {S : St} {μ : Map} {a : Act} (h : Env S μ a) : ∀ {xs : List Operand} {vs : List Value}, evs S xs = some vs → LRel S.M μ vs (xs.map a.eval) := by
  intro xs
  induction xs with
  | nil => intro vs hv; rw [evs_nil] at hv; injection hv with hv; subst hv; exact .nil
  | cons x xs ih =>
    intro vs hv
    rw [evs_cons] at hv
    obtain ⟨v, h1, h2⟩ := Option.bind_eq_some_iff.1 hv
    obtain ⟨us, h3, h4⟩ := Option.map_eq_some_iff.1 h2
    subst h4
    exact .cons (h.ev h1) (ih h3)
theorem or_func {fn : Fn} {first captured : Array Operand} (ho : o.op = .makeFunc fn first captured) (h : ow (evs S first.toList) fun us => ow (evs S captured.toList) fun vs => K (.func fn us.toArray vs.toArray) S.M) : OpRun P b o S K := by
  obtain ⟨us, hu, h⟩ := ow_iff.1 h
  obtain ⟨vs, hv, hK⟩ := ow_iff.1 h
  refine .pure (fun μ a w hE hS => ⟨.func fn (first.map a.eval) (captured.map a.eval), by simp [execOp, ho, Instr.makeFunc], ?_⟩) hK
  have r1 := hE.evs hu
  have r2 := hE.evs hv
  exact .fn (by have := r1.1; simpa using this) (fun i x y hx hy => r1.2 i x y (by simpa using hx) (by simpa using hy)) (by have := r2.1; simpa using this) (fun i x y hx hy => r2.2 i x y (by simpa using hx) (by simpa using hy))
def tupAt (v : Value) (i : Nat) : Option Value :=
  match v with
  | .tuple vs => vs[i]?
  | _ => none
theorem or_extract {x : Operand} {i : Nat} (ho : o.op = .extract x i) (h : ow (S.ev x) fun u => ow (tupAt u i) fun v => K v S.M) : OpRun P b o S K := by
  obtain ⟨u, hu, h⟩ := ow_iff.1 h
  obtain ⟨v, hv, hK⟩ := ow_iff.1 h
  unfold tupAt at hv
  split at hv
  · rename_i vs _
    refine .pure (fun μ a w hE hS => ?_) hK
    obtain ⟨ys, he, h1⟩ := (hE.ev hu).tup_inv
    obtain ⟨y, hy, hrel⟩ := h1.at_ (i := i) (x := v) (by simpa using hv)
    refine ⟨y, ?_, hrel⟩
    have hy' : ys[i]? = some y := by simpa using hy
    simp [execOp, ho, he, Instr.extract, hy']
  · cases hv
/-- A field of a struct by value. -/
def fieldV (v : Value) (f : Nat × Option Nat) : Option Value :=
  match v, f with
  | .agg cs, (off, none) => cs[off]?
  | .agg cs, (off, some k) => some (.agg ((cs.toList.drop off).take k).toArray)
  | _, _ => none
theorem qField_some {t : TypeId} {f off : Nat} {k : Option Nat} (h : qField P t f = some (off, k)) : ∃ fs fl, P.underlying t = some (.struct fs) ∧ fs[f]? = some fl ∧ fl.offset = off ∧ qLoad P fl.type = some k ∧ ∃ i, P.info? fl.type = some i ∧ i.size ≠ 0 := by
  unfold qField at h
  split at h
  · rename_i fs hfs
    split at h
    · rename_i fl hfl
      split at h
      · rename_i k' hk
        split at h
        · rename_i hany
          injection h with h
          injection h with h1 h2
          subst h2
          refine ⟨fs, fl, hfs, hfl, h1, hk, ?_⟩
          cases hi : P.info? fl.type with
          | none => rw [hi] at hany; cases hany
          | some i => rw [hi] at hany; exact ⟨i, rfl, by simpa using hany⟩
        · cases h
      · cases h
    · cases h
  · cases h
theorem or_field {t : TypeId} {x : Operand} {f : Nat} (ho : o.op = .field t x f) (h : ow (S.ev x) fun u => ow (qField P t f) fun q => ow (fieldV u q) fun v => K v S.M) : OpRun P b o S K := by
  obtain ⟨u, hu, h⟩ := ow_iff.1 h
  obtain ⟨⟨off, k⟩, hq, h⟩ := ow_iff.1 h
  obtain ⟨v, hv, hK⟩ := ow_iff.1 h
  obtain ⟨fs, fl, h1, h2, h3, h4, i, h5, h6⟩ := qField_some hq
  obtain ⟨d, i', hd, hi', hcase⟩ := qLoad_some h4
  rw [h5] at hi'
  injection hi' with hi'
  subst hi'
  obtain ⟨cs, rfl⟩ : ∃ cs, u = .agg cs := by
    unfold fieldV at hv
    split at hv
    · exact ⟨_, rfl⟩
    · exact ⟨_, rfl⟩
    · cases hv
  refine .pure (fun μ a w hE hS => ?_) hK
  obtain ⟨ys, he, hrel⟩ := (hE.ev hu).agg_inv
  cases k with
  | none =>
    rcases hcase with ⟨n, hn, _⟩ | ⟨-, hn1, hn2⟩
    · cases hn
    have hv' : cs[off]? = some v := hv
    obtain ⟨y, hy, hr⟩ := hrel.at_ (i := off) (x := v) (by simpa using hv')
    refine ⟨y, ?_, hr⟩
    have hy' : ys[off]? = some y := by simpa using hy
    have hA := run_isAgg hd w
    have hA' : (isAgg fl.type).run P w = .ok false w := by
      rw [hA]
      cases d <;> first | rfl | exact absurd rfl (hn1 _) | exact absurd rfl (hn2 _ _)
    simp [execOp, ho, he, Instr.field, run_underlying h1, h2, h3, asAgg, part, hA', hy']
  | some k =>
    rcases hcase with ⟨n, hn, hsz, hagg⟩ | ⟨hn, -⟩
    · injection hn with hn
      subst hn
      have hv' : some (Value.agg ((cs.toList.drop off).take k).toArray) = some v := hv
      injection hv' with hv'
      subst hv'
      refine ⟨.agg ((ys.toList.drop off).take k).toArray, ?_, .mk_agg ((hrel.drop off).take k)⟩
      have hA := run_isAgg hd w
      have hA' : (isAgg fl.type).run P w = .ok true w := by rw [hA]; rcases hagg with ⟨fs, rfl⟩ | ⟨n, e, rfl⟩ <;> rfl
      have hex : ys.extract off (off + k) = ((ys.toList.drop off).take k).toArray := by
        apply Array.ext'
        simp [List.drop_take]
      simp [execOp, ho, he, Instr.field, run_underlying h1, h2, h3, asAgg, part, hA', sizeOf, typeInfo, h5, hsz, hex]
    · cases hn
def fieldAddrK (S : St) (K : Value → Mem → Prop) (off : Nat) (v : Value) : Prop :=
  match v with
  | .pointer (some ⟨id, o, none⟩) => K (.pointer (some ⟨id, o + off, none⟩)) S.M
  | _ => False
theorem or_fieldAddr {t : TypeId} {x : Operand} {f : Nat} (ho : o.op = .fieldAddr t x f) (h : ow (S.ev x) fun u => ow (qField P t f) fun q => fieldAddrK S K q.1 u) : OpRun P b o S K := by
  obtain ⟨u, hu, h⟩ := ow_iff.1 h
  obtain ⟨⟨off, k⟩, hq, h⟩ := ow_iff.1 h
  obtain ⟨fs, fl, h1, h2, h3, h4, i, h5, h6⟩ := qField_some hq
  unfold fieldAddrK at h
  split at h
  · rename_i id of _
    refine .pure (fun μ a w hE hS => ?_) h
    obtain ⟨-, ad, s, he, hs, hkn, hat⟩ := (hE.ev hu).ptr_inv
    refine ⟨.pointer (some (ad.add off)), ?_, .ptr hs hkn fun r hr => by rw [hat r hr, add_add_]⟩
    simp [execOp, ho, he, Instr.fieldAt, run_underlying h1, h2, Instr.sureAddr, fieldPlace, sizeOf, typeInfo, h5, h6, h3]
  · exact h.elim
theorem qSlice_some {t e : TypeId} {sz by_ : Nat} (h : qSlice P t = some (e, sz, by_)) : P.underlying t = some (.slice e) ∧ ∃ i, P.info? e = some i ∧ i.size = sz ∧ i.bytes = by_ ∧ 0 < sz := by
  unfold qSlice at h
  split at h
  · rename_i e' he
    split at h
    · rename_i i hi
      split at h
      · rename_i hp
        injection h with h
        injection h with h1 h2
        injection h2 with h2 h3
        subst h1
        exact ⟨he, i, hi, h2, h3, by omega⟩
      · cases h
    · cases h
  · cases h
def indexAddrK (S : St) (K : Value → Mem → Prop) (esz : Nat) (v i : Value) : Prop :=
  match v, i with
  | .slice (some ⟨id, o, none⟩) n _, .int _ j => (0 ≤ j ∧ j < (n : Int)) ∧ K (.pointer (some ⟨id, o + j.toNat * esz, none⟩)) S.M
  | _, _ => False
theorem indexAddrK_inv {esz : Nat} {v i : Value} (h : indexAddrK S K esz v i) : ∃ id of n c k j, v = .slice (some ⟨id, of, none⟩) n c ∧ i = .int k j ∧ 0 ≤ j ∧ j < (n : Int) ∧ K (.pointer (some ⟨id, of + j.toNat * esz, none⟩)) S.M := by
  unfold indexAddrK at h
  split at h
  · exact ⟨_, _, _, _, _, _, rfl, rfl, h.1.1, h.1.2, h.2⟩
  · exact h.elim
theorem or_indexAddr {t : TypeId} {x y : Operand} (ho : o.op = .indexAddr t x y) (h : ow (S.ev x) fun u => ow (S.ev y) fun i => ow (qSlice P t) fun q => indexAddrK S K q.2.1 u i) : OpRun P b o S K := by
  obtain ⟨u, hu, h⟩ := ow_iff.1 h
  obtain ⟨v, hv, h⟩ := ow_iff.1 h
  obtain ⟨⟨e, sz, by_⟩, hq, h⟩ := ow_iff.1 h
  obtain ⟨h1, i, h2, h3, h4, h5⟩ := qSlice_some hq
  obtain ⟨id, of, n, c, k, j, rfl, rfl, c1, c2, hK⟩ := indexAddrK_inv h
  refine .pure (fun μ a w hE hS => ?_) hK
  obtain ⟨-, ad, cp, s, he, hs, hkn, hn, hm, hat⟩ := (hE.ev hu).sl_inv
  have hi := (hE.ev hv).int
  refine ⟨.pointer (some (ad.add (j.toNat * sz))), ?_, .ptr hs hkn fun r hr => ?_⟩
  · simp [execOp, ho, he, hi, Instr.indexAt, run_underlying h1, asIntOf, c1, c2, sizeOf, typeInfo, h2, h3]
  · obtain ⟨h6, -⟩ := hat r hr
    rcases h6 with ⟨h6, -⟩ | h6
    · omega
    · rw [h6, add_add_]
def indexK (S : St) (K : Value → Mem → Prop) (v i : Value) : Prop :=
  match v, i with
  | .string s, .int _ j => (0 ≤ j ∧ j < (s.size : Int)) ∧ K (.int .u8 (strAt s j.toNat)) S.M
  | _, _ => False
theorem indexK_inv {v i : Value} (h : indexK S K v i) : ∃ s k j, v = .string s ∧ i = .int k j ∧ 0 ≤ j ∧ j < (s.size : Int) ∧ K (.int .u8 (strAt s j.toNat)) S.M := by
  unfold indexK at h
  split at h
  · exact ⟨_, _, _, rfl, rfl, h.1.1, h.1.2, h.2⟩
  · exact h.elim
theorem or_index {t : TypeId} {x y : Operand} (ho : o.op = .index t x y) (h : P.underlying t = some .string ∧ ow (S.ev x) fun u => ow (S.ev y) fun i => indexK S K u i) : OpRun P b o S K := by
  obtain ⟨ht, h⟩ := h
  obtain ⟨u, hu, h⟩ := ow_iff.1 h
  obtain ⟨v, hv, h⟩ := ow_iff.1 h
  obtain ⟨s, k, j, rfl, rfl, c1, c2, hK⟩ := indexK_inv h
  refine .pure (fun μ a w hE hS => ⟨_, ?_, .plain rfl⟩) hK
  have hs := (hE.ev hu).string
  have hi := (hE.ev hv).int
  have hlt : j.toNat < s.size := by omega
  have hb : s[j.toNat]? = some (s.data.toList.getD j.toNat 0) := by
    rw [getElem?_pos s j.toNat hlt]
    congr 1
    have hl : j.toNat < s.data.toList.length := by simpa using hlt
    rw [List.getD_eq_getElem?_getD, List.getElem?_eq_getElem hl]
    rfl
  simp [execOp, ho, hs, hi, Instr.index, run_underlying ht, asIntOf, c1, hb, strAt]
theorem or_nilCheck {x : Operand} (ho : o.op = .nilCheck x) (h : ow (S.ev x) fun u => match u with | .pointer (some ⟨id, off, none⟩) => K (.pointer (some ⟨id, off, none⟩)) S.M | .func (.func f) us vs => K (.func (.func f) us vs) S.M | _ => False) : OpRun P b o S K := by
  obtain ⟨u, hu, h⟩ := ow_iff.1 h
  split at h
  · refine .pure (fun μ a w hE hS => ⟨_, ?_, hE.ev hu⟩) h
    obtain ⟨-, ad, s, he, -⟩ := (hE.ev hu).ptr_inv
    simp [execOp, ho, he]
  · refine .pure (fun μ a w hE hS => ⟨_, ?_, hE.ev hu⟩) h
    have := hE.ev hu
    generalize hc : a.eval x = c at this
    cases this with
    | plain hp => simp [plainV] at hp
    | fn _ _ _ _ => simp [execOp, ho, hc]
  · exact h.elim
end
end Go.Proofs.YtodbjnngkonklaaGreat

namespace Go.Proofs.YtodbjnngkonklaaGreat
open Go.RowKit
set_option linter.unusedVariables false
set_option linter.unusedSimpArgs false

theorem setCells_heap {g : Nat} {e : TypeId} {fr : Nat × Nat} : ∀ (vs : List Value) (o : Nat) (w : World) (cur : Array Value), w.heap[g]? = some (.cells cur e fr) → o + vs.length ≤ cur.size →
    ∃ cur', (w.setCells g o vs).heap[g]? = some (.cells cur' e fr) ∧ cur'.size = cur.size ∧ (∀ j, (j < o ∨ o + vs.length ≤ j) → cur'[j]? = cur[j]?) ∧ (∀ j v, vs[j]? = some v → cur'[o + j]? = some v) ∧
      (w.setCells g o vs).os = w.os ∧ (w.setCells g o vs).tape = w.tape ∧ (w.setCells g o vs).output = w.output ∧ (w.setCells g o vs).heap.size = w.heap.size ∧ ∀ k, k ≠ g → (w.setCells g o vs).heap[k]? = w.heap[k]?
  | [], o, w, cur, h, _ => ⟨cur, h, rfl, fun _ _ => rfl, fun j v hv => by simp at hv, rfl, rfl, rfl, rfl, fun _ _ => rfl⟩
  | v :: vs, o, w, cur, h, hle => by
    simp only [List.length_cons] at hle
    have h1 : (w.setCell ⟨g, o, none⟩ v).heap[g]? = some (.cells (cur.setIfInBounds o v) e fr) := by simp [World.setCell, Array.getElem?_modify, h]
    obtain ⟨cur', a1, a2, a3, a4, a5, a6, a7, a8, a9⟩ := setCells_heap vs (o + 1) _ _ h1 (by simp; omega)
    refine ⟨cur', a1, by rw [a2]; simp, fun j hj => ?_, fun j u hu => ?_, a5, a6, a7, by simp only [World.setCells]; rw [a8]; simp [World.setCell], fun k hk => by simp only [World.setCells]; rw [a9 k hk, Below.heap_setCell _ _ _ _ hk]⟩
    · simp only [List.length_cons] at hj
      rw [a3 j (by omega), Array.getElem?_setIfInBounds_ne (by omega)]
    · cases j with
      | zero =>
        simp at hu
        subst hu
        rw [a3 (o + 0) (by omega), Nat.add_zero, Array.getElem?_setIfInBounds_self, if_pos (by omega)]
      | succ j =>
        have := a4 j u (by simpa using hu)
        rwa [show o + (j + 1) = o + 1 + j by omega]

def srcOf (P : Program) (M : Mem) (esz : Nat) (tx : TypeId) (x : Value) : Option (Nat × List Value) :=
  match x with
  | .slice none n c => (match P.underlying tx with | some (.slice _) => if n = 0 ∧ c = 0 then some (0, []) else none | _ => none)
  | .slice (some ⟨id, off, sp⟩) m _ => (match P.underlying tx with | some (.slice _) => if m = 0 then some (0, []) else if sp = none then (cellsAt M id off (m * esz)).map fun cs => (m, cs) else none | _ => none)
  | .string s => (match P.underlying tx with | some .string => if esz = 1 then some (s.size, byteCells s) else none | _ => none)
  | _ => none

section
variable {P : Program} {b : Nat} {o : Oper} {S : St} {K : Value → Mem → Prop}

theorem VRel.one {M : Mem} {μ : Map} {v c : Value} (h : VRel M μ v c) (h1 : v.oneCell' = true) : c.oneCell' = true := by
  cases h with
  | plain _ => exact h1
  | agg => cases h1
  | tup => cases h1
  | _ => rfl
/-- The source of an append, in the world. -/
theorem Sim.src {M : Mem} {μ : Map} {w : World} (hS : Sim M μ w) {esz : Nat} {tx : TypeId} {x x' : Value} {m : Nat} {news : List Value} (h : srcOf P M esz tx x = some (m, news)) (hx : VRel M μ x x') (h1 : news.all (fun u => u.oneCell') = true) :
    ∃ ds, LRel M μ news ds ∧ Src P esz tx x' m ds w := by
  unfold srcOf at h
  split at h
  · split at h
    · rename_i e ht
      split at h
      · rename_i hn
        injection h with h
        injection h with h2 h3
        subst h2; subst h3
        obtain ⟨rfl, rfl⟩ := hn
        have : x' = .slice none 0 0 := hx.of_plain rfl
        subst this
        exact ⟨[], .nil, Src.ofNil w ht 0⟩
      · cases h
    · cases h
  · split at h
    · rename_i e ht
      split at h
      · rename_i hm0
        subst hm0
        injection h with h
        injection h with h2 h3
        subst h2; subst h3
        obtain ⟨-, ad, cp, s, rfl, hs, hkn, hn, hm, hat⟩ := hx.sl_inv
        exact ⟨[], .nil, Src.ofSlice w ht ad _ _ [] (by simp) (fun j u hu => by simp at hu) fun u hu => by simp at hu⟩
      split at h
      case isFalse => cases h
      obtain ⟨cs, hcs, he⟩ := Option.map_eq_some_iff.1 h
      injection he with h2 h3
      subst h2; subst h3
      obtain ⟨-, ad, cp, s, rfl, hs, hkn, hn, hm, hat⟩ := hx.sl_inv
      obtain ⟨r, hr, hlen, ds, hrel, hcell⟩ := hS.cells hcs
      rw [hr] at hs
      injection hs with hs
      obtain ⟨h4, -⟩ := hat r hs.symm
      refine ⟨ds, hrel, Src.ofSlice w ht ad _ _ ds (by rw [← hrel.1, hlen]) (fun j u hu => ?_) fun u hu => ?_⟩
      · have hj : j < cs.length := by have := (List.getElem?_eq_some_iff.1 hu).1; rw [← hrel.1] at this; exact this
        rcases h4 with ⟨h4, -⟩ | h4
        · subst h4
          have : cs.length = 0 := by
            rw [hlen]
            have : (0 : Nat) * esz = 0 := Nat.zero_mul _
            rw [show _ = 0 from Nat.le_zero.1 hn]; exact this
          omega
        · rw [h4, add_add_]; exact hcell j u hu
      · obtain ⟨i, hi, rfl⟩ := List.getElem_of_mem hu
        have hx := hrel.2 i (cs[i]'(by rw [hrel.1]; exact hi)) _ (List.getElem?_eq_getElem _) (List.getElem?_eq_getElem hi)
        exact hx.one (List.all_eq_true.1 h1 _ (List.getElem_mem _))
    · cases h
  · split at h
    · rename_i ht
      split at h
      · rename_i he
        injection h with h
        injection h with h2 h3
        subst h2; subst h3; subst he
        have : x' = .string _ := hx.string
        subst this
        refine ⟨_, ⟨rfl, fun i u v hu hv => ?_⟩, Src.ofString w ht _⟩
        rw [hu] at hv
        injection hv with hv
        subst hv
        refine .plain ?_
        have hm := List.mem_of_getElem? hu
        unfold byteCells at hm
        obtain ⟨z, -, rfl⟩ := List.mem_map.1 hm
        rfl
      · cases h
    · cases h
  · cases h

def appendK (P : Program) (b : Nat) (S : St) (K : Value → Mem → Prop) (t tx : TypeId) (s x : Value) : Prop :=
  ow (qSlice P t) fun q => ow (srcOf P S.M q.2.1 tx x) fun mn => (P.info? q.1).any (fun i => i.zero.any fun z => z.cells.size == q.2.1) = true ∧ mn.2.all (fun u => u.oneCell') = true ∧
    match s with
    | .slice none n c => (n = 0 ∧ c = 0) ∧ mn.1 * q.2.2 ≤ 140737488355328 ∧ mn.1 ≤ maxLen ∧ (mn.1 = 0 → K (.slice none 0 0) S.M) ∧ (mn.1 ≠ 0 → K (.slice (some ⟨S.M.length, 0, none⟩) mn.1 mn.1) (S.M ++ [.live ⟨mn.2, true, false, q.1, q.2.1⟩]))
    | .slice (some ⟨id, 0, none⟩) n c => (match S.M[id]? with
      | some (.live r) => (r.own = true ∧ n * q.2.1 = r.cells.length ∧ r.esz = q.2.1 ∧ r.elem = q.1) ∧ (n + mn.1) * q.2.2 ≤ 140737488355328 ∧ n + mn.1 ≤ maxLen ∧ (mn.1 = 0 → K (.slice (some ⟨id, 0, none⟩) n c) S.M) ∧
        (mn.1 ≠ 0 → if r.tight = true then K (.slice (some ⟨S.M.length, 0, none⟩) (n + mn.1) (n + mn.1)) (S.M ++ [.live ⟨r.cells ++ mn.2, true, false, q.1, q.2.1⟩])
          else b ≤ id ∧ K (.slice (some ⟨S.M.length, 0, none⟩) (n + mn.1) (n + mn.1)) (S.M.set id .dead ++ [.live ⟨r.cells ++ mn.2, true, false, q.1, q.2.1⟩]))
      | _ => False)
    | _ => False

theorem or_append {c : Call} {s x : Operand} {t tx : TypeId} (ho : o.op = .call c) (hc : c.callee = .builtin .append) (ha : c.args = #[s, x]) (ht : c.argTypes = #[t, tx])
    (h : ow (S.ev s) fun u => ow (S.ev x) fun v => appendK P b S K t tx u v) : OpRun P b o S K := by
  obtain ⟨u, hu, h⟩ := ow_iff.1 h
  obtain ⟨v, hv, h⟩ := ow_iff.1 h
  unfold appendK at h
  obtain ⟨⟨e, sz, by_⟩, hq, h⟩ := ow_iff.1 h
  obtain ⟨⟨m, news⟩, hsrc, hz, hone, h⟩ := ow_iff.1 h
  obtain ⟨h1, i, h2, h3, h4, h5⟩ := qSlice_some hq
  simp only at hz hone h
  have hz' : ∃ z, i.zero = some z ∧ z.cells.size = sz := by
    rw [h2] at hz
    simp only [Option.any_some] at hz
    cases hz0 : i.zero with
    | none => rw [hz0] at hz; cases hz
    | some z => rw [hz0] at hz; exact ⟨z, rfl, by simpa using hz⟩
  obtain ⟨z, hz0, hzs⟩ := hz'
  subst h3
  subst h4
  intro μ a w hE hS
  have hrun : ∀ s' x', a.eval s = s' → a.eval x = x' → ∀ v' w', (Builtin.append_ #[t, tx] o.type #[s', x']).run P w = .ok v' w' → (execOp a.eval o).run P w = .ok (.value v') w' := by
    intro s' x' e1 e2 v' w' hr
    simp [execOp, ho, resolve, hc, ha, ht, invoke, builtin, e1, e2, hr]
  obtain ⟨ds, hrel, hSrc⟩ := hS.src (P := P) hsrc (hE.ev hv) hone
  have hrelM : ds.length = m * i.size := hSrc.newsLen
  -- a row of its own: what it is when it grows
  have grow : ∀ (base : Option Addr) (n cap : Nat) (xs olds : List Value), LRel S.M μ xs olds → xs.length = n * i.size →
      (Builtin.firstCells i.size n (.slice base n cap)).run P w.drew = .ok olds.toArray w.drew → cap < n + m → (n + m) * i.bytes ≤ 140737488355328 → n + m ≤ maxLen →
      ∃ cap' w', (Builtin.append_ #[t, tx] o.type #[.slice base n cap, a.eval x]).run P w = .ok (.slice (some ⟨w.heap.size, 0, none⟩) (n + m) cap') w' ∧ n + m ≤ cap' ∧ cap' ≤ maxLen ∧
        ∃ cur, w' = w.drew.alloc (.cells cur e) ∧ cur.size = cap' * i.size ∧ (xs ++ news).length ≤ cur.size ∧ ∀ (j : Nat) c, (xs ++ news)[j]? = some c → ∃ d, cur[j]? = some d ∧ VRel S.M μ c d := by
    intro base n cap xs olds hr hl hf hg hb hm
    have hlo : olds.length = n * i.size := by rw [← hr.1, hl]
    have hge := grownCap_ge w (n + m) cap e
    refine ⟨_, _, run_append_grow_src w t tx o.type e i z h1 h2 hz0 base n cap olds hf (a.eval x) m ds hSrc hg (by unfold maxLen at hm; omega) (growslice_fits hg hb), hge, grownCap_le_maxLen w (n + m) cap e hm, _, rfl, ?_, ?_, ?_⟩
    · simp only [Array.size_append, List.size_toArray, List.length_append, size_zeroCells, hzs, hlo, hrelM, ← Nat.add_mul]
      congr 1
      omega
    · simp only [Array.size_append, List.size_toArray, List.length_append, hlo, hl, hrelM, hrel.1]
      omega
    · intro j c hc
      obtain ⟨d, hd, hh⟩ := (hr.append hrel).at_ hc
      refine ⟨d, ?_, hh⟩
      have hj := (List.getElem?_eq_some_iff.1 hd).1
      rw [Array.getElem?_append_left (by simpa using hj)]
      simpa using hd
  split at h
  · rename_i n c _
    obtain ⟨⟨rfl, rfl⟩, hb, hm, hK0, hK1⟩ := h
    have hs : a.eval s = .slice none 0 0 := (hE.ev hu).of_plain rfl
    by_cases h0 : m = 0
    · subst h0
      have hd : ds = [] := List.eq_nil_of_length_eq_zero (by simpa using hrelM)
      subst hd
      refine ⟨_, w, _, .slice none 0 0, S.M, μ, hrun _ _ hs rfl _ _ ?_, .inl rfl, hK0 rfl, .plain rfl, hS, .refl⟩
      have hc := hSrc.cells
      have hl := hSrc.len w
      rcases hSrc.kind with ⟨e', hk⟩ | hk <;> simp [Builtin.append_, run_underlying h1, run_underlying hk, sizeOf, typeInfo, h2, hl, hc]
    · obtain ⟨cap', w', hr, k1, k2, cur, rfl, k3, k4, k5⟩ := grow none 0 0 [] [] .nil (by simp) (run_firstCells_none w.drew i.size 0 0 0) (by omega) (by simpa using hb) (by simpa using hm)
      obtain ⟨g1, g2⟩ := (hS.heap (w' := w.drew) rfl).alloc (b := b) (xs := news) (cur := cur) (elem := e) (esz := i.size) (tight := false) (by simpa using k4) (fun h => by cases h) (by simpa using k5)
      refine ⟨_, _, _, _, _, _, hrun _ _ hs rfl _ _ hr, .inl rfl, hK1 h0, ?_, g1, Step.trans (Step.heap (b := b) (M := S.M) (μ := μ) (w := w) (w' := w.drew) rfl rfl rfl rfl) g2⟩
      simp only [Nat.zero_add] at k1 ⊢
      exact .sl getElem?_snoc_eq rfl k1 k2 fun r hr => by
        injection hr with hr
        subst hr
        exact ⟨.inr (by rw [Map.set_at, Addr.add_lit]; rfl), fun _ => by rw [Map.set_room, k3]; simp⟩
  · rename_i id n c _ _ _
    split at h
    · rename_i r hr
      obtain ⟨⟨c1, c2, c3, c4⟩, hb, hm, hK0, hK1⟩ := h
      obtain ⟨-, ad, cp, sl, hs, hsl, hkn, hncp, hcm, hat⟩ := (hE.ev hu).sl_inv
      rw [hr] at hsl
      injection hsl with hsl
      obtain ⟨h6, h7⟩ := hat r hsl.symm
      have h7 := h7 c1
      have hrow := hS.row id r hr
      obtain ⟨g, cur, fr, e1, e2, ef, e3, e4, e5⟩ := hrow.own c1
      have h6 : ad = ⟨g, 0, none⟩ := by
        rcases h6 with ⟨-, h6⟩ | h6
        · exact absurd rfl h6
        · rw [h6, e1]; rfl
      subst h6
      rw [c3, Nat.zero_add, ← e3] at h7
      -- what the row holds
      have hx : ∃ olds, LRel S.M μ r.cells olds ∧ ∀ (j : Nat) d, olds[j]? = some d → cur[j]? = some d := by
        refine ⟨cur.toList.take r.cells.length, ⟨by simp; omega, fun j x y hx hy => ?_⟩, fun j d hd => ?_⟩
        · obtain ⟨d, hd, hh⟩ := hrow.cell j x hx
          have hj := (List.getElem?_eq_some_iff.1 hx).1
          rw [List.getElem?_take, if_pos hj] at hy
          rw [e1, Addr.add_lit] at hd
          simp only [Nat.zero_add] at hd
          rw [cell_of_row _ g j cur r.elem fr e2] at hd
          have : some y = some d := by rw [← hd, ← hy]; simp
          injection this with this
          rw [this]; exact hh
        · rw [List.getElem?_take] at hd
          split at hd
          · simpa using hd
          · cases hd
      obtain ⟨olds, ho1, ho2⟩ := hx
      by_cases h0 : m = 0
      · subst h0
        have hd : ds = [] := List.eq_nil_of_length_eq_zero (by simpa using hrelM)
        subst hd
        refine ⟨_, w, _, .slice (some ⟨g, 0, none⟩) n cp, S.M, μ, hrun _ _ hs rfl _ _ ?_, .inl rfl, hK0 rfl, ?_, hS, .refl⟩
        · have := run_append_room_src (P := P) w t tx o.type e i h1 h2 g 0 n cp (a.eval x) 0 [] hSrc (by omega) (fun j hj => by simp at hj) (fun j hj => by simp at hj)
          simpa [World.setCells] using this
        · have := hE.ev hu
          rw [hs] at this
          exact this
      · have hK1 := hK1 h0
        by_cases hroom : n + m ≤ cp
        · have hnt : r.tight ≠ true := by
            intro htt
            have h8 := e5 htt
            rw [← c2, ← h7] at h8
            have := Nat.eq_of_mul_eq_mul_right h5 h8
            omega
          rw [if_neg hnt] at hK1
          obtain ⟨hbid, hK1⟩ := hK1
          have hfit : 0 + n * i.size + ds.length ≤ cur.size := by rw [hrelM, ← h7, Nat.zero_add, ← Nat.add_mul]; exact Nat.mul_le_mul_right _ hroom
          have hcl : ∀ j, j < ds.length → (w.cell? ⟨g, 0 + n * i.size + j, none⟩).isSome = true := by
            intro j hj
            rw [cell_of_row _ g _ cur r.elem fr e2, Array.getElem?_eq_getElem (by omega)]
            rfl
          have hfz : ∀ j, j < ds.length → w.frozen? ⟨g, 0 + n * i.size + j, none⟩ = false := by
            intro j hj
            have := ef (0 + n * i.size + j) (by omega)
            simp only [World.frozen?, e2]
            simp
            omega
          have hr2 := run_append_room_src (P := P) w t tx o.type e i h1 h2 g 0 n cp (a.eval x) m ds hSrc hroom hcl hfz
          obtain ⟨cur', a1, a2, a3, a4, a5, a6, a7, a8, a9⟩ := setCells_heap ds (0 + n * i.size) w cur e2 hfit
          have hlen : r.cells.length + news.length ≤ cur'.size := by rw [a2, ← c2, hrel.1]; omega
          have hx2 : ∀ (j : Nat) c, (r.cells ++ news)[j]? = some c → ∃ d, cur'[j]? = some d ∧ VRel S.M μ c d := by
            intro j c hc
            obtain ⟨d, hd, hh⟩ := (ho1.append hrel).at_ hc
            refine ⟨d, ?_, hh⟩
            by_cases hj : j < olds.length
            · rw [List.getElem?_append_left hj] at hd
              rw [a3 j (by left; have := ho1.1; omega)]
              exact ho2 j d hd
            · rw [List.getElem?_append_right (by omega)] at hd
              have := a4 _ _ hd
              rwa [show 0 + n * i.size + (j - olds.length) = j by have := ho1.1; omega] at this
          obtain ⟨g1, g2⟩ := hS.renew (b := b) (w' := w.setCells g (0 + n * i.size) ds) (g := g) (xs := r.cells ++ news) (cur := cur') (esz := i.size) hr c1 hbid a5 a6 a7 (by omega) (fun k _ hk => a9 k (by rw [e1] at hk; exact hk)) a1 (fun j hj => ef j (by omega)) (.inl (by rw [e1])) (by simpa using hlen) hx2
          rw [c4] at g1 g2
          refine ⟨_, _, _, _, _, _, hrun _ _ hs rfl _ _ hr2, .inl rfl, hK1, ?_, g1, g2⟩
          have hl2 : (S.M.set id Slot.dead).length = S.M.length := by simp
          have hnew : (S.M.set id Slot.dead ++ [Slot.live ⟨r.cells ++ news, true, false, e, i.size⟩])[S.M.length]? = some (Slot.live ⟨r.cells ++ news, true, false, e, i.size⟩) := by rw [← hl2]; exact getElem?_snoc_eq
          exact .sl hnew rfl hroom hcm fun r' hr' => by
            injection hr' with hr'
            subst hr'
            exact ⟨.inr (by rw [Map.set_at, Addr.add_lit]), fun _ => by rw [Map.set_room, a2, ← h7]; simp⟩
        · obtain ⟨cap', w', hr2, k1, k2, cur2, rfl, k3, k4, k5⟩ := grow (some ⟨g, 0, none⟩) n cp r.cells olds ho1 c2.symm (by
            refine run_firstCells_some w.drew i.size n _ n cp olds (by rw [← ho1.1, c2]) fun j u hu => ?_
            rw [Addr.add_lit]
            simp only [Nat.zero_add]
            show w.cell? _ = _
            rw [cell_of_row _ g j cur r.elem fr e2]
            exact ho2 j u hu) (by omega) hb hm
          have hnewW : (w.drew.alloc (.cells cur2 e)).heap[w.heap.size]? = some (.cells cur2 e (0, 0)) := heap_alloc_new w.drew _
          by_cases htt : r.tight = true
          · rw [if_pos htt] at hK1
            obtain ⟨g1, g2⟩ := (hS.heap (w' := w.drew) rfl).alloc (b := b) (xs := r.cells ++ news) (cur := cur2) (elem := e) (esz := i.size) (tight := false) k4 (fun h => by cases h) k5
            refine ⟨_, _, _, _, _, _, hrun _ _ hs rfl _ _ hr2, .inl rfl, hK1, ?_, g1, Step.trans (Step.heap (b := b) (M := S.M) (μ := μ) (w := w) (w' := w.drew) rfl rfl rfl rfl) g2⟩
            exact .sl getElem?_snoc_eq rfl k1 k2 fun r' hr' => by
              injection hr' with hr'
              subst hr'
              exact ⟨.inr (by rw [Map.set_at, Addr.add_lit]; rfl), fun _ => by rw [Map.set_room, k3]; simp⟩
          · rw [if_neg htt] at hK1
            obtain ⟨hbid, hK1⟩ := hK1
            obtain ⟨g1, g2⟩ := hS.renew (b := b) (w' := w.drew.alloc (.cells cur2 e)) (g := w.heap.size) (xs := r.cells ++ news) (cur := cur2) (esz := i.size) hr c1 hbid rfl rfl rfl (by simp) (fun k hk _ => Below.heap_alloc w.drew _ _ hk) (by rw [c4]; exact hnewW) (fun j _ => by simp) (.inr (Nat.le_refl _)) k4 k5
            rw [c4] at g1 g2
            refine ⟨_, _, _, _, _, _, hrun _ _ hs rfl _ _ hr2, .inl rfl, hK1, ?_, g1, g2⟩
            have hl2 : (S.M.set id Slot.dead).length = S.M.length := by simp
            have hnew : (S.M.set id Slot.dead ++ [Slot.live ⟨r.cells ++ news, true, false, e, i.size⟩])[S.M.length]? = some (Slot.live ⟨r.cells ++ news, true, false, e, i.size⟩) := by rw [← hl2]; exact getElem?_snoc_eq
            exact .sl hnew rfl k1 k2 fun r' hr' => by
              injection hr' with hr'
              subst hr'
              exact ⟨.inr (by rw [Map.set_at, Addr.add_lit]), fun _ => by rw [Map.set_room, k3]; simp⟩
    · exact h.elim
  · exact h.elim
end
end Go.Proofs.YtodbjnngkonklaaGreat

namespace Go.Proofs.YtodbjnngkonklaaGreat
open Go.RowKit
set_option linter.unusedVariables false
set_option linter.unusedSimpArgs false

def bndV (x : Option Value) (d : Int) : Option Int :=
  match x with
  | none => some d
  | some (.int _ n) => some n
  | _ => none
def evo (S : St) (x : Option Operand) : Option (Option Value) :=
  match x with
  | none => some none
  | some x => (S.ev x).map some
def rowEsz (M : Mem) (id : Nat) : Option Nat :=
  match M[id]? with
  | some (.live r) => some r.esz
  | _ => none
def sliceK (P : Program) (S : St) (K : Value → Mem → Prop) (t : TypeId) (x : Value) (lo hi : Option Value) : Prop :=
  match x with
  | .string s => P.underlying t = some .string ∧ ow (bndV lo 0) fun l => ow (bndV hi s.size) fun h => (0 ≤ l ∧ l ≤ h ∧ h ≤ (s.size : Int)) ∧ K (.string (s.extract l.toNat h.toNat)) S.M
  | .slice none n c => (n = 0 ∧ c = 0) ∧ ow (qSlice P t) fun _ => ow (bndV lo 0) fun l => ow (bndV hi 0) fun h => (0 ≤ l ∧ l ≤ h ∧ h ≤ 0) ∧ K (.slice none 0 0) S.M
  | .slice (some ⟨id, off, none⟩) n _ => ow (qSlice P t) fun q => ow (bndV lo 0) fun l => ow (bndV hi n) fun h => (0 ≤ l ∧ l ≤ h ∧ h ≤ (n : Int)) ∧ rowEsz S.M id = some q.2.1 ∧ K (.slice (some ⟨id, off + l.toNat * q.2.1, none⟩) (h.toNat - l.toNat) (h.toNat - l.toNat)) S.M
  | _ => False

section
variable {P : Program} {b : Nat} {o : Oper} {S : St} {K : Value → Mem → Prop}
theorem Env.evo {μ : Map} {a : Act} (h : Env S μ a) {x : Option Operand} {v : Option Value} (hx : evo S x = some v) {d l : Int} (hb : bndV v d = some l) : bndV (x.map a.eval) d = some l := by
  cases x with
  | none => simp only [Go.Proofs.YtodbjnngkonklaaGreat.evo] at hx; injection hx with hx; subst hx; exact hb
  | some x =>
    simp only [Go.Proofs.YtodbjnngkonklaaGreat.evo] at hx
    obtain ⟨u, hu, rfl⟩ := Option.map_eq_some_iff.1 hx
    unfold bndV at hb
    cases u <;> simp at hb
    subst hb
    rw [Option.map_some, (h.ev hu).int]
    rfl
theorem run_bounds {isSl : Bool} {len cap : Nat} {lo hi : Option Value} {l h : Int} (hl : bndV lo 0 = some l) (hh : bndV hi (len : Int) = some h) (h0 : 0 ≤ l) (h1 : l ≤ h) (h2 : h ≤ (cap : Int)) (w : World) :
    (Instr.sliceBounds isSl len cap lo hi none).run P w = .ok (l.toNat, h.toNat, cap) w := by
  have bnd : ∀ (k : IntKind) (n : Int) (y : Nat) code, 0 ≤ n → n ≤ (y : Int) → (Instr.sliceBound (.int k n) y code).run P w = .ok n.toNat w := by
    intro k n y code a1 a2
    simp [Instr.sliceBound, asIntOf, a1, a2]
  have hi' : ∃ u : World, True := ⟨w, trivial⟩
  cases lo with
  | none =>
    injection hl with hl
    subst hl
    cases hi with
    | none =>
      injection hh with hh
      subst hh
      simp [Instr.sliceBounds]
    | some v =>
      cases v <;> simp [bndV] at hh
      subst hh
      simp [Instr.sliceBounds, bnd _ _ cap _ (by omega) h2]
  | some u =>
    cases u <;> simp [bndV] at hl
    subst hl
    cases hi with
    | none =>
      injection hh with hh
      subst hh
      simp only [Instr.sliceBounds]
      simp [bnd _ _ len _ h0 h1]
    | some v =>
      cases v <;> simp [bndV] at hh
      subst hh
      simp only [Instr.sliceBounds]
      simp [bnd _ _ cap _ (by omega) h2]
      rw [bnd _ _ _ _ h0 (by omega)]
      simp
theorem sliceAt_eq {t : TypeId} {x : Value} {lo hi mx : Option Value} {d : TypeDesc} (ht : P.underlying t = some d) (hn : ∀ n e, d ≠ .array n e) (w : World) : (Instr.sliceAt t x lo hi mx).run P w = (Instr.slice t x lo hi mx).run P w := by
  unfold Instr.sliceAt
  simp only [Sem.run_bind, run_underlying ht, Result.andThen_ok]
theorem or_slice {t : TypeId} {x : Operand} {lo hi : Option Operand} (ho : o.op = .slice t x lo hi none) (h : ow (S.ev x) fun u => ow (evo S lo) fun l => ow (evo S hi) fun h => sliceK P S K t u l h) : OpRun P b o S K := by
  obtain ⟨u, hu, h⟩ := ow_iff.1 h
  obtain ⟨lv, hlv, h⟩ := ow_iff.1 h
  obtain ⟨hv, hhv, h⟩ := ow_iff.1 h
  unfold sliceK at h
  split at h
  · rename_i s _ _
    obtain ⟨ht, h⟩ := h
    obtain ⟨l, hl, h⟩ := ow_iff.1 h
    obtain ⟨g, hg, h⟩ := ow_iff.1 h
    obtain ⟨⟨c1, c2, c3⟩, hK⟩ := h
    refine .pure (fun μ a w hE hS => ⟨_, ?_, .plain rfl⟩) hK
    simp only [execOp, ho, Sem.run_bind, Option.map_none]
    rw [sliceAt_eq ht (by simp)]
    have := run_bounds (P := P) (isSl := false) (cap := s.size) (hE.evo hlv hl) (hE.evo hhv hg) c1 c2 c3 w
    simp [(hE.ev hu).string, Instr.slice, run_underlying ht, this]
  · obtain ⟨⟨hn0, hc0⟩, hA⟩ := h
    subst hn0
    subst hc0
    obtain ⟨⟨e, sz, by_⟩, hq, hB⟩ := ow_iff.1 hA
    obtain ⟨l, hl, hC⟩ := ow_iff.1 hB
    obtain ⟨g, hg, hD⟩ := ow_iff.1 hC
    obtain ⟨⟨c1, c2, c3⟩, hK⟩ := hD
    obtain ⟨ht, i, h2, h3, h4, h5⟩ := qSlice_some hq
    refine .pure (fun μ a w hE hS => ⟨.slice none 0 0, ?_, .plain rfl⟩) hK
    simp only [execOp, ho, Sem.run_bind, Option.map_none]
    rw [sliceAt_eq ht (by simp)]
    have := run_bounds (P := P) (isSl := true) (len := 0) (cap := 0) (hE.evo hlv hl) (hE.evo hhv hg) c1 c2 c3 w
    have hx : a.eval x = .slice none 0 0 := (hE.ev hu).of_plain rfl
    simp [hx, Instr.slice, run_underlying ht, this, sizeOf, typeInfo, h2]
    omega
  · rename_i id off n c _ _
    obtain ⟨⟨e, sz, by_⟩, hq, h⟩ := ow_iff.1 h
    obtain ⟨l, hl, h⟩ := ow_iff.1 h
    obtain ⟨g, hg, h⟩ := ow_iff.1 h
    obtain ⟨⟨c1, c2, c3⟩, hrow, hK⟩ := h
    obtain ⟨ht, i, h2, h3, h4, h5⟩ := qSlice_some hq
    refine .pure (fun μ a w hE hS => ?_) hK
    obtain ⟨-, ad, cp, s, he, hs, hkn, hn, hm, hat⟩ := (hE.ev hu).sl_inv
    have := run_bounds (P := P) (isSl := true) (len := n) (cap := cp) (hE.evo hlv hl) (hE.evo hhv hg) c1 c2 (by omega) w
    refine ⟨.slice (some (if cp = l.toNat then ad else ad.add (l.toNat * sz))) (g.toNat - l.toNat) (cp - l.toNat), ?_, ?_⟩
    · simp only [execOp, ho, Sem.run_bind, Option.map_none]
      rw [sliceAt_eq ht (by simp)]
      simp [he, Instr.slice, run_underlying ht, this, sizeOf, typeInfo, h2, h3]
      split <;> rfl
    · have hrow' : ∀ r, s = .live r → r.esz = sz := by
        rintro r rfl
        unfold rowEsz at hrow
        rw [hs] at hrow
        simpa using hrow
      refine .sl hs hkn (by omega) (by omega) fun r hr => ?_
      obtain ⟨h6, h7⟩ := hat r hr
      have he2 := hrow' r hr
      simp only
      refine ⟨?_, fun ho => ?_⟩
      · by_cases hc : cp = l.toNat
        · rw [if_pos hc]
          by_cases hl0 : l.toNat = 0
          · rcases h6 with ⟨h6, h8⟩ | h6
            · exact .inl ⟨by omega, by omega⟩
            · right; rw [h6, hl0, Nat.zero_mul, Nat.add_zero]
          · have : 0 < l.toNat * sz := Nat.mul_pos (by omega) h5
            exact .inl ⟨by omega, by omega⟩
        · rw [if_neg hc]
          rcases h6 with ⟨h6, h8⟩ | h6
          · omega
          · right; rw [h6, add_add_]
      · have := h7 ho
        rw [he2] at this ⊢
        have e1 : (cp - l.toNat) * sz = cp * sz - l.toNat * sz := Nat.sub_mul _ _ _
        have e2 : l.toNat * sz ≤ cp * sz := Nat.mul_le_mul_right _ (by omega)
        omega
  · exact h.elim

def lenK (P : Program) (S : St) (K : Value → Mem → Prop) (t : TypeId) (x : Value) : Prop :=
  match P.underlying t, x with
  | some .string, .string s => K (.int .i64 (s.size : Int)) S.M
  | some (.slice _), .slice _ n _ => K (.int .i64 (n : Int)) S.M
  | some (.map _ _), .map (some r) => ∃ (id : Nat) (es : List (Value × Value)), S.M[id]? = some (.mp r es) ∧ K (.int .i64 ((es.length : Nat) : Int)) S.M
  | _, _ => False
theorem lenK_inv {t : TypeId} {x : Value} (h : lenK P S K t x) : (∃ s, P.underlying t = some .string ∧ x = .string s ∧ K (.int .i64 (s.size : Int)) S.M) ∨ (∃ e q n c, P.underlying t = some (.slice e) ∧ x = .slice q n c ∧ K (.int .i64 (n : Int)) S.M) ∨ (∃ (kt et : TypeId) (r id : Nat) (es : List (Value × Value)), P.underlying t = some (.map kt et) ∧ x = .map (some r) ∧ S.M[id]? = some (Slot.mp r es) ∧ K (.int .i64 ((es.length : Nat) : Int)) S.M) := by
  unfold lenK at h
  split at h
  · exact .inl ⟨_, by assumption, rfl, h⟩
  · exact .inr (.inl ⟨_, _, _, _, by assumption, rfl, h⟩)
  · obtain ⟨id, es, h1, h2⟩ := h; exact .inr (.inr ⟨_, _, _, id, es, by assumption, rfl, h1, h2⟩)
  · exact h.elim
theorem VRel.sl_shape {M : Mem} {μ : Map} {q : Option Addr} {n c : Nat} {v : Value} (h : VRel M μ (.slice q n c) v) : ∃ q' c', v = .slice q' n c' := by
  cases h with
  | plain _ => exact ⟨_, _, rfl⟩
  | sl => exact ⟨_, _, rfl⟩
theorem or_len {c : Call} {x : Operand} {t : TypeId} (ho : o.op = .call c) (hc : c.callee = .builtin .len) (ha : c.args = #[x]) (ht : c.argTypes = #[t]) (h : ow (S.ev x) fun u => lenK P S K t u) : OpRun P b o S K := by
  obtain ⟨u, hu, h⟩ := ow_iff.1 h
  rcases lenK_inv h with ⟨s, h1, rfl, hK⟩ | ⟨e, q, n, cc, h1, rfl, hK⟩ | ⟨kt, et, r, id, es, h1, rfl, h2, hK⟩
  · refine .pure (fun μ a w hE hS => ⟨_, ?_, .plain rfl⟩) hK
    simp [execOp, ho, resolve, hc, ha, ht, invoke, builtin, (hE.ev hu).string, Builtin.len_, run_underlying h1, goInt]
  · refine .pure (fun μ a w hE hS => ⟨_, ?_, .plain rfl⟩) hK
    obtain ⟨q', c', he⟩ := (hE.ev hu).sl_shape
    simp [execOp, ho, resolve, hc, ha, ht, invoke, builtin, he, Builtin.len_, run_underlying h1, goInt]
  · intro μ a w hE hS
    have e1 : a.eval x = .map (some r) := (hE.ev hu).of_plain rfl
    obtain ⟨m, c, q1, q2⟩ := hS.maps.1 id r es h2
    have hlen : m.size = es.length := by rw [← q2]; simp
    refine ⟨.value (.int .i64 ((es.length : Nat) : Int)), w, _, _, S.M, μ, ?_, .inl rfl, hK, .plain rfl, hS, .refl⟩
    simp [execOp, ho, resolve, hc, ha, ht, invoke, builtin, e1, Builtin.len_, run_underlying h1, MapKept.run_getObj_map q1, hlen, goInt]

def minV (x y : Value) : Option Value :=
  match x, y with
  | .int k a, .int _ c => some (.int k (if c < a then c else a))
  | _, _ => none
def maxV (x y : Value) : Option Value :=
  match x, y with
  | .int k a, .int _ c => some (.int k (if c > a then c else a))
  | _, _ => none
theorem or_min2 {c : Call} {x y : Operand} (ho : o.op = .call c) (hc : c.callee = .builtin .min) (ha : c.args = #[x, y]) (h : ow (S.ev x) fun u => ow (S.ev y) fun v => ow (minV u v) fun r => K r S.M) : OpRun P b o S K := by
  obtain ⟨u, hu, h⟩ := ow_iff.1 h
  obtain ⟨v, hv, h⟩ := ow_iff.1 h
  obtain ⟨r, hr, hK⟩ := ow_iff.1 h
  cases u <;> try cases hr
  cases v <;> try cases hr
  refine .pure (fun μ a w hE hS => ⟨_, ?_, .plain rfl⟩) hK
  simp [execOp, ho, resolve, hc, ha, invoke, builtin, (hE.ev hu).int, (hE.ev hv).int, Builtin.min_, Builtin.min2]
theorem or_max2 {c : Call} {x y : Operand} (ho : o.op = .call c) (hc : c.callee = .builtin .max) (ha : c.args = #[x, y]) (h : ow (S.ev x) fun u => ow (S.ev y) fun v => ow (maxV u v) fun r => K r S.M) : OpRun P b o S K := by
  obtain ⟨u, hu, h⟩ := ow_iff.1 h
  obtain ⟨v, hv, h⟩ := ow_iff.1 h
  obtain ⟨r, hr, hK⟩ := ow_iff.1 h
  cases u <;> try cases hr
  cases v <;> try cases hr
  refine .pure (fun μ a w hE hS => ⟨_, ?_, .plain rfl⟩) hK
  simp [execOp, ho, resolve, hc, ha, invoke, builtin, (hE.ev hu).int, (hE.ev hv).int, Builtin.max_, Builtin.max2]

/-- What is built, part by part. -/
theorem LRel.foldl_set {M : Mem} {μ : Map} : ∀ (us vs : List Value) (xs ys : Array Value) (off k : Nat), LRel M μ us vs → LRel M μ xs.toList ys.toList →
    LRel M μ ((us.zipIdx k).foldl (fun cs (c : Value × Nat) => cs.setIfInBounds (off + c.2) c.1) xs).toList ((vs.zipIdx k).foldl (fun cs (c : Value × Nat) => cs.setIfInBounds (off + c.2) c.1) ys).toList := by
  intro us
  induction us with
  | nil =>
    intro vs xs ys off k h h'
    have : vs = [] := List.eq_nil_of_length_eq_zero h.1.symm
    subst this
    simpa using h'
  | cons u us ih =>
    intro vs xs ys off k h h'
    match vs, h with
    | [], h => exact absurd h.1 (by simp)
    | v :: vs, h =>
      simp only [List.zipIdx_cons, List.foldl_cons]
      refine ih vs _ _ off (k + 1) ⟨by simpa using h.1, fun i x y hx hy => h.2 (i + 1) x y (by simpa using hx) (by simpa using hy)⟩ ⟨by simpa using h'.1, fun i x y hx hy => ?_⟩
      simp only [Array.toList_setIfInBounds] at hx hy
      have hlen := h'.1
      rcases getElem?_set_inv hx with ⟨e1, rfl, -⟩ | ⟨e1, hx⟩ <;> rcases getElem?_set_inv hy with ⟨e2, rfl, -⟩ | ⟨e2, hy⟩
      · exact h.2 0 _ _ rfl rfl
      · exact absurd e1 e2
      · exact absurd e2 e1
      · exact h'.2 i x y hx hy
theorem fill_rel {M : Mem} {μ : Map} {place : Nat → Option (Nat × Nat)} : ∀ (ps qs : List (Nat × Value)) (xs ys r : Array Value), ps.map (·.1) = qs.map (·.1) → LRel M μ (ps.map (·.2)) (qs.map (·.2)) → LRel M μ xs.toList ys.toList → Instr.fill place xs ps = some r →
    ∃ r', Instr.fill place ys qs = some r' ∧ LRel M μ r.toList r'.toList := by
  intro ps
  induction ps with
  | nil =>
    intro qs xs ys r h1 h2 h3 h
    have : qs = [] := by cases qs <;> simp_all
    subst this
    injection h with h
    subst h
    exact ⟨ys, rfl, h3⟩
  | cons p ps ih =>
    intro qs xs ys r h1 h2 h3 h
    obtain ⟨i, v⟩ := p
    match qs, h1, h2 with
    | [], h1, h2 => cases h1
    | (j, c) :: qs, h1, h2 =>
      simp only [List.map_cons, List.cons.injEq] at h1
      obtain ⟨rfl, h1⟩ := h1
      have hv : VRel M μ v c := h2.2 0 v c rfl rfl
      have hsz : v.cells.size = c.cells.size := by have := hv.cells.1; simpa using this
      have hs2 : xs.size = ys.size := by have := h3.1; simpa using this
      simp only [Instr.fill] at h ⊢
      split at h
      · cases h
      · rename_i off size hp
        split at h
        · cases h
        · rename_i hc
          rw [hsz, hs2] at hc
          rw [if_neg hc]
          refine ih qs _ _ r h1 ⟨by have := h2.1; simpa using this, fun i x y hx hy => h2.2 (i + 1) x y (by simpa using hx) (by simpa using hy)⟩ ?_ h
          have := LRel.foldl_set v.cells.toList c.cells.toList xs ys off 0 hv.cells h3
          rw [← Array.foldl_toList, ← Array.foldl_toList, Array.toList_zipIdx, Array.toList_zipIdx]
          exact this
def partsV (S : St) (ps : List (Nat × Operand)) : Option (List (Nat × Value)) :=
  match ps with
  | [] => some []
  | (i, x) :: ps => match S.ev x, partsV S ps with
    | some v, some vs => some ((i, v) :: vs)
    | _, _ => none
theorem Env.parts {μ : Map} {a : Act} (h : Env S μ a) : ∀ {ps : List (Nat × Operand)} {vs : List (Nat × Value)}, partsV S ps = some vs →
    vs.map (·.1) = (ps.map fun p => (p.1, a.eval p.2)).map (·.1) ∧ LRel S.M μ (vs.map (·.2)) ((ps.map fun p => (p.1, a.eval p.2)).map (·.2)) := by
  intro ps
  induction ps with
  | nil => intro vs hv; injection hv with hv; subst hv; exact ⟨rfl, .nil⟩
  | cons p ps ih =>
    intro vs hv
    obtain ⟨i, x⟩ := p
    simp only [partsV] at hv
    split at hv
    · rename_i v us h1 h2
      injection hv with hv
      subst hv
      obtain ⟨h3, h4⟩ := ih h2
      exact ⟨by simp [h3], .cons (h.ev h1) h4⟩
    · cases hv
theorem LRel.plain {M : Mem} {μ : Map} {xs : List Value} (h : xs.all plainV = true) : LRel M μ xs xs :=
  ⟨rfl, fun i x y hx hy => by
    rw [hx] at hy
    injection hy with hy
    subst hy
    exact .plain (List.all_eq_true.1 h x (List.mem_of_getElem? hx))⟩
theorem or_build {t : TypeId} {ps : Array (Nat × Operand)} (ho : o.op = .build t ps) (h : ow (partsV S ps.toList) fun vs => ow (qBuild P t) fun q => ow (Instr.fill (q.2[·]?) q.1 vs) fun cs => K (.agg cs) S.M) : OpRun P b o S K := by
  obtain ⟨vs, hvs, h⟩ := ow_iff.1 h
  obtain ⟨⟨z, places⟩, hq, h⟩ := ow_iff.1 h
  obtain ⟨cs, hcs, hK⟩ := ow_iff.1 h
  unfold qBuild at hq
  split at hq
  · rename_i fs hfs
    split at hq
    · rename_i i hi
      split at hq
      · rename_i zz hz
        split at hq
        · rename_i hp
          injection hq with hq
          injection hq with h1 h2
          rw [Bool.and_eq_true] at hp
          refine .pure (fun μ a w hE hS => ?_) hK
          obtain ⟨e1, e2⟩ := hE.parts hvs
          obtain ⟨r', hr', hrel⟩ := fill_rel (M := S.M) (μ := μ) vs (ps.toList.map fun p => (p.1, a.eval p.2)) z z cs e1 e2 (.plain (by rw [← h1]; simpa using hp.1)) hcs
          refine ⟨.agg r', ?_, by have := VRel.mk_agg hrel; simpa using this⟩
          have hplaces : (fs.mapM fun f => (do pure (f.offset, ← sizeOf f.type) : Sem (Nat × Nat))).run P w = .ok (fs.map fun f => (f.offset, P.cellsOf f.type)) w := by
            have key : ∀ l : List Field, (l.all fun f => (P.info? f.type).isSome) = true → (l.mapM fun f => (do pure (f.offset, ← sizeOf f.type) : Sem (Nat × Nat))).run P w = .ok (l.map fun f => (f.offset, P.cellsOf f.type)) w := by
              intro l
              induction l with
              | nil => intro _; simp
              | cons f l ih =>
                intro hl
                simp only [List.all_cons, Bool.and_eq_true] at hl
                obtain ⟨i0, hi0⟩ := Option.isSome_iff_exists.1 hl.1
                have := ih hl.2
                have hs : (sizeOf f.type).run P w = .ok i0.size w := by simp [sizeOf, typeInfo, hi0]
                simp only [List.mapM_cons, Sem.run_bind, hs, Result.andThen_ok, Sem.run_pure, this]
                simp [hi0, Program.cellsOf]
            have h3 := key fs.toList (by simpa using hp.2)
            rw [Array.mapM_eq_mapM_toList, Sem.run_map, h3]
            rw [Result.andThen_ok]
            congr 1
            apply Array.ext'
            simp
          rw [← h2] at hr'
          simp only [execOp, ho, Instr.build, Sem.run_bind, zeroValue, typeInfo, hi, hz]
          simp only [Go.program, Sem.run, Result.andThen_ok, hi, Sem.run_pure, hz, run_underlying hfs, Sem.run_bind, hplaces, h1, Array.toList_map, hr']
        · cases hq
      · cases hq
    · cases hq
  · cases hq
end
end Go.Proofs.YtodbjnngkonklaaGreat
