/- Operations on values over abstract states. No conditions. -/
import Derived.Test.YtffbocbjmhkikaaAw3
namespace Go.Proofs.Ytffbocbjmhkikaa
open Go.RowKit
set_option linter.unusedVariables false
set_option linter.unusedSimpArgs false

def intV (op : BinOp) (k : IntKind) (a c : Int) : Option Value :=
  match op with
  | .add => some (.int k (k.wrap (a + c)))
  | .sub => some (.int k (k.wrap (a - c)))
  | .mul => some (.int k (k.wrap (a * c)))
  | .quo => if c = 0 then none else some (.int k (k.wrap (a.tdiv c)))
  | .rem => if c = 0 then none else some (.int k (a.tmod c))
  | .and => some (.int k (k.wrap (BitVec.ofInt k.bits a &&& BitVec.ofInt k.bits c).toNat))
  | .or => some (.int k (k.wrap (BitVec.ofInt k.bits a ||| BitVec.ofInt k.bits c).toNat))
  | .xor => some (.int k (k.wrap (BitVec.ofInt k.bits a ^^^ BitVec.ofInt k.bits c).toNat))
  | .andNot => some (.int k (k.wrap (BitVec.ofInt k.bits a &&& ~~~ BitVec.ofInt k.bits c).toNat))
  | .shl => if c < 0 then none else some (.int k (k.wrap (a * 2 ^ (min c.toNat k.bits))))
  | .shr => if c < 0 then none else some (.int k (a.fdiv (2 ^ (min c.toNat k.bits))))
  | .eql => some (.bool (decide (a = c)))
  | .neq => some (.bool (!decide (a = c)))
  | .lss => some (.bool (decide (a < c)))
  | .leq => some (.bool (decide (a ≤ c)))
  | .gtr => some (.bool (decide (c < a)))
  | .geq => some (.bool (decide (c ≤ a)))
def isShift : BinOp → Bool
  | .shl => true
  | .shr => true
  | _ => false
def strV (op : BinOp) (x y : ByteArray) : Option Value :=
  match op with
  | .add => if ((x.size + y.size : Nat) : Int) > IntKind.i64.max then none else some (.string (x ++ y))
  | .eql => some (.bool (x.toList == y.toList))
  | .neq => some (.bool (!(x.toList == y.toList)))
  | .lss => some (.bool (Op.bytesLess x.toList y.toList))
  | .leq => some (.bool (Op.bytesLess x.toList y.toList || x.toList == y.toList))
  | .gtr => some (.bool (!(Op.bytesLess x.toList y.toList || x.toList == y.toList)))
  | .geq => some (.bool (!Op.bytesLess x.toList y.toList))
  | _ => none
open Classical in
/-- Are two structs of cells without addresses equal? -/
noncomputable def aggEq (P : Program) (t : TypeId) (xs ys : Array Value) : Option Bool :=
  if h : ∃ r, P.eqGuardType P.depth t = false ∧ xs.toList.all plainV = true ∧ ys.toList.all plainV = true ∧ ∀ w, (Op.equal t (.agg xs) (.agg ys)).run P w = .ok r w then some (Classical.choose h) else none
def ptrNil : Value → Option Bool
  | .pointer q => some q.isNone
  | _ => none
def slNil : Value → Option Bool
  | .slice q _ _ => some q.isNone
  | _ => none
def eqNil : Option Bool → Option Bool → Option Bool
  | some true, some q => some q
  | some false, some true => some false
  | _, _ => none
noncomputable def eqV (P : Program) (t : TypeId) (x y : Value) : Option Bool :=
  match P.underlying t with
  | some .bool => (match x, y with | .bool a, .bool c => some (a == c) | _, _ => none)
  | some (.pointer _) => eqNil (ptrNil x) (ptrNil y)
  | some (.slice _) => eqNil (slNil x) (slNil y)
  | some (.struct _) => (match x, y with | .agg xs, .agg ys => aggEq P t xs ys | _, _ => none)
  | _ => none
noncomputable def binV (P : Program) (op : BinOp) (t : TypeId) (x y : Value) : Option Value :=
  match x, y with
  | .int k a, .int k' c => if k = k' ∨ isShift op = true then intV op k a c else none
  | .string a, .string c => strV op a c
  | x, y => match op with
    | .eql => (eqV P t x y).map .bool
    | .neq => (eqV P t x y).map fun r => .bool (!r)
    | _ => none

section
variable {P : Program} {b : Nat} {o : Oper} {S : St} {K : Value → Mem → Prop}
theorem aggEq_of {t : TypeId} {xs ys : Array Value} {r : Bool} (h0 : P.eqGuardType P.depth t = false) (h1 : xs.toList.all plainV = true) (h2 : ys.toList.all plainV = true) (h : ∀ w, (Op.equal t (.agg xs) (.agg ys)).run P w = .ok r w) : aggEq P t xs ys = some r := by
  unfold aggEq
  have hex : ∃ r, P.eqGuardType P.depth t = false ∧ xs.toList.all plainV = true ∧ ys.toList.all plainV = true ∧ ∀ w, (Op.equal t (.agg xs) (.agg ys)).run P w = .ok r w := ⟨r, h0, h1, h2, h⟩
  rw [dif_pos hex]
  have := (Classical.choose_spec hex).2.2.2 default
  rw [h default] at this
  injection this with this
  rw [← this]
theorem aggEq_run {t : TypeId} {xs ys : Array Value} {r : Bool} (h : aggEq P t xs ys = some r) : P.eqGuardType P.depth t = false ∧ xs.toList.all plainV = true ∧ ys.toList.all plainV = true ∧ ∀ w, (Op.equal t (.agg xs) (.agg ys)).run P w = .ok r w := by
  unfold aggEq at h
  split at h
  · rename_i hex
    injection h with h
    rw [← h]
    exact Classical.choose_spec hex
  · cases h
theorem run_intV {op : BinOp} {t : TypeId} {k : IntKind} {a c : Int} {v : Value} (k' : IntKind) (hk : k = k' ∨ isShift op = true) (h : intV op k a c = some v) (w : World) : (binOp op t (.int k a) (.int k' c)).run P w = .ok v w := by
  rcases hk with rfl | hk
  · cases op <;> simp only [intV] at h <;> first
      | (split at h
         · cases h
         · injection h with h; subst h; simp [binOp, Op.intDiv, Op.shift, *])
      | (injection h with h; subst h; simp [binOp, Op.intArith, Op.intBits, Op.intCmp, bne, BEq.beq])
  · cases op <;> first
      | (exfalso; simp [isShift] at hk; done)
      | (simp only [intV] at h
         split at h
         · cases h
         · injection h with h; subst h; simp [binOp, Op.shift, *])
theorem run_strV {op : BinOp} {t : TypeId} {x y : ByteArray} {v : Value} (h : strV op x y = some v) (w : World) : (binOp op t (.string x) (.string y)).run P w = .ok v w := by
  have e : ∀ op, isShift op = false → binOp op t (.string x) (.string y) = Op.stringOp op x y := by intro op; cases op <;> first | (intro _; rfl) | (intro h; cases h)
  cases op with
  | add =>
    simp only [strV] at h
    split at h
    · cases h
    · rename_i hn
      injection h with h
      subst h
      rw [e _ rfl]
      simp only [Op.stringOp]
      rw [if_neg hn]
      rfl
  | eql => injection h with h; subst h; rfl
  | neq => injection h with h; subst h; rfl
  | lss => injection h with h; subst h; rfl
  | leq => injection h with h; subst h; rfl
  | gtr => injection h with h; subst h; rfl
  | geq => injection h with h; subst h; rfl
  | _ => cases h
theorem VRel.agg_plain {M : Mem} {μ : Map} {xs : Array Value} {c : Value} (h : VRel M μ (.agg xs) c) (hp : xs.toList.all plainV = true) : c = .agg xs := by
  obtain ⟨ys, rfl, h1, h2⟩ := h.agg_inv
  congr 1
  apply Array.ext'
  refine List.ext_getElem? fun i => ?_
  by_cases hi : i < xs.toList.length
  · have hx : xs.toList[i]? = some xs.toList[i] := List.getElem?_eq_getElem hi
    have hy : ys.toList[i]? = some (ys.toList[i]'(by omega)) := List.getElem?_eq_getElem _
    have := VRel.of_plain (List.all_eq_true.1 hp _ (List.getElem_mem hi)) (h2 i _ _ hx hy)
    rw [hx, hy, this]
  · rw [List.getElem?_eq_none (by omega), List.getElem?_eq_none (by omega)]
theorem VRel.ptrNil {M : Mem} {μ : Map} {x x' : Value} {q : Bool} (h : VRel M μ x x') (hq : ptrNil x = some q) : ∃ p, x' = .pointer p ∧ p.isNone = q := by
  cases x <;> simp only [Go.Proofs.Ytffbocbjmhkikaa.ptrNil] at hq <;> try cases hq
  rename_i p
  cases p with
  | none => exact ⟨none, h.of_plain rfl, rfl⟩
  | some p =>
    obtain ⟨id, off, sp⟩ := p
    obtain ⟨-, a, s, e, -⟩ := h.ptr_inv
    exact ⟨some a, e, rfl⟩
theorem VRel.slNil {M : Mem} {μ : Map} {x x' : Value} {q : Bool} (h : VRel M μ x x') (hq : slNil x = some q) : ∃ p n c, x' = .slice p n c ∧ p.isNone = q := by
  cases x <;> simp only [Go.Proofs.Ytffbocbjmhkikaa.slNil] at hq <;> try cases hq
  rename_i p n c
  cases p with
  | none =>
    cases h with
    | plain _ => exact ⟨none, _, _, rfl, rfl⟩
  | some p =>
    obtain ⟨id, off, sp⟩ := p
    obtain ⟨-, a, cp, s, e, -⟩ := h.sl_inv
    exact ⟨some a, _, _, e, rfl⟩
theorem eqNil_some {p q : Option Bool} {r : Bool} (h : eqNil p q = some r) : ∃ u v, p = some u ∧ q = some v ∧ ((u = true ∧ r = v) ∨ (u = false ∧ v = true ∧ r = false)) := by
  rcases p with _ | (_ | _) <;> rcases q with _ | (_ | _) <;> simp_all [eqNil]
theorem run_equal (t : TypeId) (x y : Value) : Op.equal t x y = Op.equalIn (9999 + 1) t x y := rfl
theorem run_eqV {t : TypeId} {x y x' y' : Value} {r : Bool} {M : Mem} {μ : Map} (h : eqV P t x y = some r) (hx : VRel M μ x x') (hy : VRel M μ y y') (w : World) :
    (Op.equal t x' y').run P w = .ok r w ∧ (∀ op ox oy, (eqGuard op t ox oy x' y').run P w = .ok () w) ∧ binOp .eql t x' y' = (do pure (.bool (← Op.equal t x' y'))) ∧ binOp .neq t x' y' = (do pure (.bool (!(← Op.equal t x' y')))) := by
  have gd : ∀ (x' y' : Value), (x' ≠ .nilIface) → (∀ xs, x' ≠ .agg xs) → ∀ op ox oy, (eqGuard op t ox oy x' y').run P w = .ok () w := by
    intro x' y' h1 h2 op ox oy
    unfold eqGuard
    cases x' <;> first | exact absurd rfl h1 | exact absurd rfl (h2 _) | (cases op <;> simp)
  unfold eqV at h
  cases ht : P.underlying t with
  | none => rw [ht] at h; cases h
  | some d =>
    rw [ht] at h
    cases d <;> try cases h
    case bool =>
      cases x <;> try cases h
      cases y <;> try cases h
      have e1 := hx.bool
      have e2 := hy.bool
      subst e1; subst e2
      exact ⟨by rw [run_equal, Op.equalIn]; simp only [Sem.run_bind, run_underlying ht, Result.andThen_ok, Sem.run_pure], gd _ _ (by simp) (by simp), rfl, rfl⟩
    case pointer e =>
      obtain ⟨u, v, hu, hv, hc⟩ := eqNil_some h
      obtain ⟨p, rfl, hp⟩ := hx.ptrNil hu
      obtain ⟨q, rfl, hq⟩ := hy.ptrNil hv
      refine ⟨?_, gd _ _ (by simp) (by simp), by cases p <;> cases q <;> rfl, by cases p <;> cases q <;> rfl⟩
      rw [run_equal, Op.equalIn]
      simp only [Sem.run_bind, run_underlying ht, Result.andThen_ok]
      cases p <;> cases q <;> simp_all
    case slice e =>
      obtain ⟨u, v, hu, hv, hc⟩ := eqNil_some h
      obtain ⟨p, n, c, rfl, hp⟩ := hx.slNil hu
      obtain ⟨q, m, d, rfl, hq⟩ := hy.slNil hv
      refine ⟨?_, gd _ _ (by simp) (by simp), by cases p <;> cases q <;> rfl, by cases p <;> cases q <;> rfl⟩
      rw [run_equal, Op.equalIn]
      simp only [Sem.run_bind, run_underlying ht, Result.andThen_ok]
      cases p <;> cases q <;> simp_all
    case struct fs =>
      cases x <;> try cases h
      cases y <;> try cases h
      rename_i xs ys
      obtain ⟨h0, h1, h2, h3⟩ := aggEq_run h
      have e1 := hx.agg_plain h1
      have e2 := hy.agg_plain h2
      subst e1; subst e2
      refine ⟨h3 w, fun op ox oy => ?_, rfl, rfl⟩
      unfold eqGuard
      cases op <;> simp [Go.program, Sem.run, h0]
theorem or_bin {op : BinOp} {t t' : TypeId} {x y : Operand} (ho : o.op = .binOp op t x y t') (h : ow (S.ev x) fun u => ow (S.ev y) fun v => ow (binV P op t u v) fun r => K r S.M) : OpRun P b o S K := by
  obtain ⟨u, hu, h⟩ := ow_iff.1 h
  obtain ⟨v, hv, h⟩ := ow_iff.1 h
  obtain ⟨r, hr, hK⟩ := ow_iff.1 h
  refine .pure (v := r) (fun μ a w hE hS => ⟨r, ?_, ?_⟩) hK
  · have rx := hE.ev hu
    have ry := hE.ev hv
    unfold binV at hr
    split at hr
    · rename_i k a1 k' c1 _
      split at hr
      · rename_i hk
        have := run_intV (P := P) (t := t) k' hk hr w
        have hg : (eqGuard op t x y (.int k a1) (.int k' c1)).run P w = .ok () w := by unfold eqGuard; cases op <;> simp
        simp only [execOp, ho, Sem.run_bind, rx.int, ry.int, hg, Result.andThen_ok, this, Sem.run_pure]
      · cases hr
    · rename_i a1 c1 _
      have := run_strV (P := P) (t := t) hr w
      have hg : (eqGuard op t x y (.string a1) (.string c1)).run P w = .ok () w := by unfold eqGuard; cases op <;> simp
      simp only [execOp, ho, Sem.run_bind, rx.string, ry.string, hg, Result.andThen_ok, this, Sem.run_pure]
    · split at hr
      · obtain ⟨q, hq, rfl⟩ := Option.map_eq_some_iff.1 hr
        obtain ⟨h1, h2, h3, h4⟩ := run_eqV hq rx ry w
        simp only [execOp, ho, Sem.run_bind, h2, Result.andThen_ok, h3, h1, Sem.run_pure]
      · obtain ⟨q, hq, rfl⟩ := Option.map_eq_some_iff.1 hr
        obtain ⟨h1, h2, h3, h4⟩ := run_eqV hq rx ry w
        simp only [execOp, ho, Sem.run_bind, h2, Result.andThen_ok, h4, h1, Sem.run_pure]
      · cases hr
  · refine .plain ?_
    unfold binV at hr
    split at hr
    · split at hr
      · cases op <;> simp only [intV] at hr <;> (try split at hr) <;> first | (injection hr with hr; subst hr; rfl) | cases hr
      · cases hr
    · cases op <;> simp only [strV] at hr <;> (try split at hr) <;> first | (injection hr with hr; subst hr; rfl) | cases hr
    · split at hr
      · obtain ⟨q, hq, rfl⟩ := Option.map_eq_some_iff.1 hr
        rfl
      · obtain ⟨q, hq, rfl⟩ := Option.map_eq_some_iff.1 hr
        rfl
      · cases hr
end
end Go.Proofs.Ytffbocbjmhkikaa
