/- Parts of the proof, together: Code over abstract states: contracts, the weakest precondition and its soundness (but for regions that draw their order). Operations hang on their operands alone, and have one outcome. Memories that are known in part: what a region that draws its order needs. Regions that draw their order: run in the order of the text. Regions that draw their order: any order does what the text's order does. No conditions. -/
import Derived.Test.YtbpaeonfebmomaaDoorZzD1
import Derived.Orders
namespace Go.Proofs.YtbpaeonfebmomaaDoor
open Go.RowKit
set_option linter.unusedVariables false
set_option linter.unusedSimpArgs false

/-- A contract: called with args in M, the function returns v and leaves M'; ids below b are not touched. -/
structure Det (P : Program) (b : Nat) (f : FuncId) (args : List Value) (M : Mem) (v : Value) (M' : Mem) : Prop where
  fn : ∃ fn, P.funcs[f]? = some fn ∧ (fn.name == "runtime.NumGoroutine") = false ∧ fn.body.isNone = false
  run : ∀ μ w cs, LRel M μ args cs → Sim M μ w → Calls P f cs.toArray w (fun e w' => ∃ c μ', e = .returned c ∧ VRel M' μ' v c ∧ Sim M' μ' w' ∧ Step b M μ w M' μ' w')
/-- A contract that tells what holds of the outcome. -/
structure Ctr (P : Program) (b : Nat) (f : FuncId) (args : List Value) (M : Mem) (K : Value → Mem → Prop) : Prop where
  fn : ∃ fn, P.funcs[f]? = some fn ∧ (fn.name == "runtime.NumGoroutine") = false ∧ fn.body.isNone = false
  run : ∀ μ w cs, LRel M μ args cs → Sim M μ w → Calls P f cs.toArray w (fun e w' => ∃ v M' c μ', K v M' ∧ e = .returned c ∧ VRel M' μ' v c ∧ Sim M' μ' w' ∧ Step b M μ w M' μ' w')
theorem Ctr.mono {P : Program} {b : Nat} {f : FuncId} {args : List Value} {M : Mem} {K K' : Value → Mem → Prop} (h : Ctr P b f args M K) (hK : ∀ v M', K v M' → K' v M') : Ctr P b f args M K' :=
  ⟨h.fn, fun μ w cs hl hS => (h.run μ w cs hl hS).mono fun e w' ⟨v, M', c, μ', k, r⟩ => ⟨v, M', c, μ', hK _ _ k, r⟩⟩
theorem Det.ctr {P : Program} {b : Nat} {f : FuncId} {args : List Value} {M M' : Mem} {v : Value} {K : Value → Mem → Prop} (h : Det P b f args M v M') (hK : K v M') : Ctr P b f args M K :=
  ⟨h.fn, fun μ w cs hl hS => (h.run μ w cs hl hS).mono fun e w' ⟨c, μ', r⟩ => ⟨v, M', c, μ', hK, r⟩⟩
theorem Ctr.weaken {P : Program} {b b' : Nat} {f : FuncId} {args : List Value} {M : Mem} {K : Value → Mem → Prop} (h : Ctr P b f args M K) (hb : b' ≤ b) : Ctr P b' f args M K :=
  ⟨h.fn, fun μ w cs hl hS => (h.run μ w cs hl hS).mono fun e w' ⟨v, M', c, μ', k, he, hv, h1, h2⟩ => ⟨v, M', c, μ', k, he, hv, h1, h2.weaken hb⟩⟩
theorem Det.weaken {P : Program} {b b' : Nat} {f : FuncId} {args : List Value} {M M' : Mem} {v : Value} (h : Det P b f args M v M') (hb : b' ≤ b) : Det P b' f args M v M' :=
  ⟨h.fn, fun μ w cs hl hS => (h.run μ w cs hl hS).mono fun e w' ⟨c, μ', he, hv, h1, h2⟩ => ⟨c, μ', he, hv, h1, h2.weaken hb⟩⟩

inductive Ex where
  | normal
  | exit (id : Nat)
  | ret
def Ex.toExit : Ex → Exit
  | .normal => .normal
  | .exit id => .exit id
  | .ret => .ret
def exThen (next : St → Prop) (Q : Ex → St → Prop) : Ex → St → Prop
  | .normal, S => next S
  | e, S => Q e S
def exBlock (id : Nat) (Q : Ex → St → Prop) : Ex → St → Prop
  | .exit i, S => if i = id then Q .normal S else Q (.exit i) S
  | e, S => Q e S
@[simp] theorem exThen_normal (next : St → Prop) (Q : Ex → St → Prop) (S : St) : exThen next Q .normal S = next S := (rfl)
@[simp] theorem exThen_exit (next : St → Prop) (Q : Ex → St → Prop) (S : St) (i : Nat) : exThen next Q (.exit i) S = Q (.exit i) S := (rfl)
@[simp] theorem exThen_ret (next : St → Prop) (Q : Ex → St → Prop) (S : St) : exThen next Q .ret S = Q .ret S := (rfl)
@[simp] theorem exBlock_normal (id : Nat) (Q : Ex → St → Prop) (S : St) : exBlock id Q .normal S = Q .normal S := (rfl)
@[simp] theorem exBlock_exit (id : Nat) (Q : Ex → St → Prop) (S : St) (i : Nat) : exBlock id Q (.exit i) S = if i = id then Q .normal S else Q (.exit i) S := (rfl)
@[simp] theorem exBlock_ret (id : Nat) (Q : Ex → St → Prop) (S : St) : exBlock id Q .ret S = Q .ret S := (rfl)

/-- What is shown of the model's code. -/
def AQ (b : Nat) (Q : Ex → St → Prop) (M : Mem) (μ : Map) (w : World) : Exit → Act → World → Prop :=
  fun e a' w' => ∃ x S' μ', e = Ex.toExit x ∧ Q x S' ∧ Env S' μ' a' ∧ Sim S'.M μ' w' ∧ Step b M μ w S'.M μ' w'
def AW (P : Program) (b : Nat) (c : Code) (Q : Ex → St → Prop) (S : St) : Prop := ∀ μ a w, Env S μ a → Sim S.M μ w → c.wp P (AQ b Q S.M μ w) a w

/-- A call; d: its outcome must be told. -/
def awCall (P : Program) (d : Bool) (b : Nat) (g : FuncId) (args : List Value) (M : Mem) (K : Value → Mem → Prop) (_ : Tk K := tk) : Prop := (∃ v M', Det P b g args M v M' ∧ K v M') ∨ (d = false ∧ Ctr P b g args M K)
theorem awCall_det {P : Program} {d : Bool} {b : Nat} {g : FuncId} {args : List Value} {M : Mem} {K : Value → Mem → Prop} {v : Value} {M' : Mem} (h : Det P b g args M v M') (hK : K v M') : awCall P d b g args M K := .inl ⟨v, M', h, hK⟩
theorem awCall_ctr {P : Program} {b : Nat} {g : FuncId} {args : List Value} {M : Mem} {K K' : Value → Mem → Prop} (h : Ctr P b g args M K') (hK : ∀ v M', K' v M' → K v M') : awCall P false b g args M K := .inr ⟨rfl, h.mono hK⟩
theorem awCall_run {P : Program} {d : Bool} {b : Nat} {g : FuncId} {args : List Value} {M : Mem} {K : Value → Mem → Prop} (h : awCall P d b g args M K) : Ctr P b g args M K := by
  rcases h with ⟨v, M', h, hK⟩ | ⟨-, h⟩
  · exact h.ctr hK
  · exact h
def callV (P : Program) (d : Bool) (b : Nat) (S : St) (K : Value → Mem → Prop) (f : Value) (as1 : List Value) : Prop :=
  match f with
  | .func (.func g) us vs => awCall P d b g (us.toList ++ as1 ++ vs.toList) S.M K
  | _ => False
/-- One operation. -/
noncomputable def awOp (P : Program) (d : Bool) (b : Nat) (o : Oper) (S : St) (K : Value → Mem → Prop) : Prop :=
  match o.op with
  | .move x => ow (S.ev x) fun v => K v S.M
  | .assign x => ow (S.ev x) fun v => K v S.M
  | .pick c x y => ow (S.ev c) fun cv => ow (S.ev x) fun u => ow (S.ev y) fun v => match cv with | .bool t => K (if t = true then u else v) S.M | _ => False
  | .alloc t => ow (qZero P t) fun cs => K (.pointer (some ⟨S.M.length, 0, none⟩)) (S.M ++ [.live ⟨cs, true, true, t, cs.length⟩])
  | .box t x => ow (S.ev x) fun v => K (.pointer (some ⟨S.M.length, 0, none⟩)) (S.M ++ [.live ⟨v.cells.toList, true, true, t, v.cells.size⟩])
  | .build t ps => ow (partsV S ps.toList) fun vs => ow (qBuild P t) fun q => ow (Instr.fill (q.2[·]?) q.1 vs) fun cs => K (.agg cs) S.M
  | .buildSlice t n ps => ow (partsV S ps.toList) fun vs => ow (qSlice P t) fun q => ow (qZero P q.1) fun z => (z.length = q.2.1 ∧ n * q.2.1 ≤ 16777216) ∧ ow (Instr.fill (fun i => some (i * q.2.1, q.2.1)) (zrow z n).toArray vs) fun cs =>
      K (.slice (some ⟨S.M.length, 0, none⟩) n n) (S.M ++ [.live ⟨cs.toList, true, true, q.1, q.2.1⟩])
  | .load t x => ow (S.ev x) (loadK P S t K)
  | .store t x y => ow (S.ev x) fun p => ow (S.ev y) fun v => storeK P b S t K p v
  | .nilCheck x => ow (S.ev x) fun u => match u with | .pointer (some ⟨id, off, none⟩) => K (.pointer (some ⟨id, off, none⟩)) S.M | .func (.func f) us vs => K (.func (.func f) us vs) S.M | _ => False
  | .binOp op t x y _ => ow (S.ev x) fun u => ow (S.ev y) fun v => ow (binV P op t u v) fun r => K r S.M
  | .unOp op _ x => ow (S.ev x) fun u => ow (unV op u) fun r => K r S.M
  | .convert src dst x => ow (S.ev x) fun u => match u with
    | .slice q n c => b2sK P S K src dst (.slice q n c)
    | .string s => s2K P S K src dst s
    | u => ow (convV P src dst u) fun r => K r S.M
  | .makeFunc fn first captured => ow (evs S first.toList) fun us => ow (evs S captured.toList) fun vs => K (.func fn us.toArray vs.toArray) S.M
  | .makeSlice t x y => ow (S.ev x) fun u => ow (S.ev y) fun v => makeK P S K t u v
  | .slice t x lo hi none => ow (S.ev x) fun u => ow (evo S lo) fun l => ow (evo S hi) fun h => sliceK P S K t u l h
  | .fieldAddr t x f => ow (S.ev x) fun u => ow (qField P t f) fun q => fieldAddrK S K q.1 u
  | .field t x f => ow (S.ev x) fun u => ow (qField P t f) fun q => ow (fieldV u q) fun v => K v S.M
  | .indexAddr t x y => ow (S.ev x) fun u => ow (S.ev y) fun i => ow (qSlice P t) fun q => indexAddrK S K q.2.1 u i
  | .index t x y => P.underlying t = some .string ∧ ow (S.ev x) fun u => ow (S.ev y) fun i => indexK S K u i
  | .extract x i => ow (S.ev x) fun u => ow (tupAt u i) fun v => K v S.M
  | .call c => match c.callee, c.args.toList, c.argTypes.toList with
    | .value f, as1, _ => ow (S.ev f) fun fv => ow (evs S as1) fun vs => callV P d b S K fv vs
    | .builtin .len, [x], [t] => ow (S.ev x) fun u => lenK P S K t u
    | .builtin .append, [s, x], [t, tx] => ow (S.ev s) fun u => ow (S.ev x) fun v => appendK P b S K t tx u v
    | .builtin .min, [x, y], _ => ow (S.ev x) fun u => ow (S.ev y) fun v => ow (minV u v) fun r => K r S.M
    | .builtin .max, [x, y], _ => ow (S.ev x) fun u => ow (S.ev y) fun v => ow (maxV u v) fun r => K r S.M
    | _, _, _ => False
  | _ => False
def isCall (o : Oper) : Bool :=
  match o.op with
  | .call { callee := .value _, .. } => true
  | _ => false
theorem toArray_eq {α : Type} {a : Array α} {l : List α} (h : a.toList = l) : a = l.toArray := by rw [← h]

section
variable {P : Program} {d : Bool} {b : Nat} {o : Oper} {S : St} {K : Value → Mem → Prop}
theorem awOp_run (hc : isCall o = false) (h : awOp P d b o S K) : OpRun P b o S K := by
  unfold awOp at h
  split at h
  case h_22 =>
    rename_i c hop
    split at h
    · exfalso
      obtain ⟨ce, ar, at_⟩ := c
      cases ce <;> simp_all [isCall]
    · rename_i h1 h2 h3
      exact or_len hop h1 (toArray_eq h2) (toArray_eq h3) h
    · rename_i h1 h2 h3
      exact or_append hop h1 (toArray_eq h2) (toArray_eq h3) h
    · rename_i h1 h2
      exact or_min2 hop h1 (toArray_eq h2) h
    · rename_i h1 h2
      exact or_max2 hop h1 (toArray_eq h2) h
    · exact h.elim
  all_goals first
    | exact h.elim
    | exact or_move (.inl (by assumption)) h
    | exact or_move (.inr (by assumption)) h
    | exact or_pick (by assumption) h
    | exact or_alloc (by assumption) h
    | exact or_box (by assumption) h
    | exact or_build (by assumption) h
    | exact or_buildSlice (by assumption) h
    | exact or_load (by assumption) h
    | exact or_store (by assumption) h
    | exact or_nilCheck (by assumption) h
    | exact or_bin (by assumption) h
    | exact or_un (by assumption) h
    | exact or_func (by assumption) h
    | exact or_make (by assumption) h
    | exact or_slice (by assumption) h
    | exact or_fieldAddr (by assumption) h
    | exact or_field (by assumption) h
    | exact or_indexAddr (by assumption) h
    | exact or_index (by assumption) h
    | exact or_extract (by assumption) h
    | skip
  rename_i src dst x hop
  obtain ⟨u, hu, h'⟩ := ow_iff.1 h
  split at h'
  · exact or_b2s hop (ow_iff.2 ⟨_, hu, h'⟩)
  · exact or_s2 hop hu h'
  · exact or_conv hop (ow_iff.2 ⟨_, hu, h'⟩)

/-- The operation, where it is no call: what the model's wp says. -/
theorem OpRun.wp (h : OpRun P b o S K) {μ : Map} {a : Act} {w : World} (hE : Env S μ a) (hS : Sim S.M μ w) {next : Act → World → Prop} {Q : Exit → Act → World → Prop}
    (hn : ∀ v M' c μ' w', K v M' → VRel M' μ' v c → Sim M' μ' w' → Step b S.M μ w M' μ' w' → next (a.put o.dst c) w') : o.wp P a w next Q := by
  obtain ⟨nx, w', v, c, M', μ', hr, hnx, hK, hv, h1, h2⟩ := h μ a w hE hS
  unfold Oper.wp
  rw [hr]
  rcases hnx with rfl | ⟨rfl, rfl⟩
  · exact hn v M' _ μ' w' hK hv h1 h2
  · exact hn v M' _ μ' w' hK hv h1 h2
theorem callV_inv {f : Value} {as1 : List Value} (h : callV P d b S K f as1) : ∃ g us vs, f = .func (.func g) us vs ∧ Ctr P b g (us.toList ++ as1 ++ vs.toList) S.M K := by
  unfold callV at h
  split at h
  · exact ⟨_, _, _, rfl, awCall_run h⟩
  · exact h.elim
theorem awOp_wp (h : awOp P d b o S K) {μ : Map} {a : Act} {w : World} (hE : Env S μ a) (hS : Sim S.M μ w) {next : Act → World → Prop} {Q : Exit → Act → World → Prop}
    (hn : ∀ v M' c μ' w', K v M' → VRel M' μ' v c → Sim M' μ' w' → Step b S.M μ w M' μ' w' → next (a.put o.dst c) w') : o.wp P a w next Q := by
  cases hc : isCall o with
  | false => exact (awOp_run hc h).wp hE hS hn
  | true =>
    unfold isCall at hc
    split at hc
    · rename_i fo as1 ats hop
      unfold awOp at h
      simp only [hop] at h
      obtain ⟨fv, hf, h'⟩ := ow_iff.1 h
      obtain ⟨vs, hvs, h''⟩ := ow_iff.1 h'
      obtain ⟨g, us, cs, rfl, hd⟩ := callV_inv h''
      have rf := hE.ev hf
      have ra := hE.evs hvs
      obtain ⟨fn, hfn, hname, hbody⟩ := hd.fn
      generalize hce : a.eval fo = cf at rf
      cases rf with
      | plain hp => simp [plainV] at hp
      | @fn _ _ ys _ zs e1 r1 e2 r2 =>
        have hl : LRel S.M μ (us.toList ++ vs ++ cs.toList) (ys.toList ++ as1.toList.map a.eval ++ zs.toList) :=
          LRel.append (LRel.append ⟨by simpa using e1, fun i x y hx hy => r1 i x y (by simpa using hx) (by simpa using hy)⟩ ra) ⟨by simpa using e2, fun i x y hx hy => r2 i x y (by simpa using hx) (by simpa using hy)⟩
        have hrun := hd.run μ w _ hl hS
        have hx : (execOp a.eval o).run P w = .ok (.enter g (ys ++ as1.map a.eval ++ zs)) w := by
          have hname' : ¬ fn.name = "runtime.NumGoroutine" := by simpa using hname
          have hbody' : ¬ fn.body = none := by intro h; rw [h] at hbody; cases hbody
          simp [execOp, hop, resolve, hce, Deferred.ofValue, invoke, callFunc, Go.program, Sem.run, hfn, hname', hbody']
        unfold Oper.wp
        rw [hx]
        have harr : (ys ++ as1.map a.eval ++ zs) = (ys.toList ++ as1.toList.map a.eval ++ zs.toList).toArray := by apply Array.ext'; simp
        simp only [Oper.upon]
        rw [harr]
        refine hrun.mono ?_
        rintro e w' ⟨v, M', c, μ', hK, rfl, hv, h1, h2⟩
        exact hn v M' _ μ' w' hK hv h1 h2
    · cases hc

/-- Operations one after the other; the rest of them is a list of numbers. -/
noncomputable def awOps (P : Program) (b : Nat) (ops : Array Oper) (Q : St → Prop) : List Oper → St → Prop
  | [], S => Q S
  | o :: os, S =>
    match o.guard with
    | none => awOp P false b o S fun v M' => awOps P b ops Q os (St.put { S with M := M' } o.dst v)
    | some (j, want) => ow (((ops[j]?).bind (·.dst)).bind S.get) fun g => match g with
      | .bool y => (y = want → awOp P false b o S fun v M' => awOps P b ops Q os (St.put { S with M := M' } o.dst v)) ∧ (y = !want → awOps P b ops Q os (S.put o.dst undef))
      | .tuple _ => awOps P b ops Q os (S.put o.dst undef)
      | _ => False
theorem get_rel {μ : Map} {a : Act} (hE : Env S μ a) {t : Nat} {v : Value} (h : S.get t = some v) : ∃ c, a.tmps[t]? = some c ∧ VRel S.M μ v c := by
  unfold St.get at h
  split at h
  · exact hE.val t v h (by assumption)
  · cases h
theorem awOps_wp {ops : Array Oper} {Q : St → Prop} : ∀ (l : List Nat) (os : List Oper) (S : St), l.map (ops[·]?) = os.map some → awOps P b ops Q os S → ∀ μ a w, Env S μ a → Sim S.M μ w → ∀ (R : Exit → Act → World → Prop),
    (∀ S' μ' a' w', Q S' → Env S' μ' a' → Sim S'.M μ' w' → Step b S.M μ w S'.M μ' w' → R .normal a' w') → wpOps P ops R l a w := by
  intro l
  induction l with
  | nil =>
    intro os S hl h μ a w hE hS R hR
    have : os = [] := by cases os <;> simp_all
    subst this
    exact hR S μ a w h hE hS .refl
  | cons i l ih =>
    intro os S hl h μ a w hE hS R hR
    match os, hl with
    | [], hl => cases hl
    | o :: os, hl =>
      simp only [List.map_cons, List.cons.injEq] at hl
      obtain ⟨ho, hl⟩ := hl
      simp only [wpOps, ho]
      have go : (awOp P false b o S fun v M' => awOps P b ops Q os (St.put { S with M := M' } o.dst v)) → o.wp P a w (wpOps P ops R l) R := fun h' =>
        awOp_wp h' hE hS fun v M' c μ' w' hK hv hS' hst => ih os _ hl hK μ' _ w' (hE.put hst hv o.dst) (by cases o.dst <;> exact hS') R
          fun S'' μ'' a'' w'' q1 q2 q3 q4 => hR S'' μ'' a'' w'' q1 q2 q3 (hst.trans (by cases hd : o.dst <;> rw [hd] at q4 <;> exact q4))
      have skip : awOps P b ops Q os (S.put o.dst undef) → wpOps P ops R l (a.put o.dst undef) w := fun h' => by
        have hE' := hE.put (b := b) (M' := S.M) (μ' := μ) (w := w) (w' := w) .refl (v := undef) (c := undef) (.tup rfl (fun i x y h => by simp at h)) o.dst
        exact ih os _ hl h' μ _ w hE' (by cases o.dst <;> exact hS) R fun S'' μ'' a'' w'' q1 q2 q3 q4 => hR S'' μ'' a'' w'' q1 q2 q3 (by cases hd : o.dst <;> rw [hd] at q4 <;> exact q4)
      simp only [awOps] at h
      cases hg : o.guard with
      | none =>
        rw [hg] at h
        rw [if_pos (by simp [Region.wanted, hg])]
        exact .inl (go h)
      | some jw =>
        obtain ⟨j, want⟩ := jw
        rw [hg] at h
        obtain ⟨g, hg1, h⟩ := ow_iff.1 h
        obtain ⟨t, ht, hget⟩ := Option.bind_eq_some_iff.1 hg1
        obtain ⟨c, hc1, hc2⟩ := get_rel hE hget
        have hy : yielded ops a.tmps j = match c with | .bool y => some y | _ => none := by
          unfold yielded
          rw [ht]
          simp only [Option.bind_some, hc1]
          cases c <;> rfl
        cases g <;> simp only at h <;> try exact h.elim
        · rename_i y
          have := hc2.bool
          subst this
          by_cases hyw : y = want
          · rw [if_pos (by simp [Region.wanted, hg, hy, hyw])]
            exact .inl (go (h.1 hyw))
          · rw [if_neg (by simp [Region.wanted, hg, hy, hyw])]
            exact skip (h.2 (by cases y <;> cases want <;> simp_all))
        · obtain ⟨ys, rfl, -⟩ := hc2.tup_inv
          rw [if_neg (by simp [Region.wanted, hg, hy])]
          exact skip h
theorem awOps_region {ops : Array Oper} {id : Nat} {Q : Ex → St → Prop} (h : awOps P b ops (Q .normal) ops.toList S) : AW P b (.region id ops false) Q S := by
  intro μ a w hE hS
  refine wp_region (awOps_wp (List.range ops.size) ops.toList S ?_ h μ a w hE hS _ fun S' μ' a' w' q1 q2 q3 q4 => ⟨.normal, S', μ', rfl, q1, q2, q3, q4⟩)
  apply List.ext_getElem?
  intro i
  simp only [List.getElem?_map]
  by_cases hi : i < ops.size
  · rw [List.getElem?_range hi]
    simp [hi]
  · rw [List.getElem?_eq_none (by simp; omega), List.getElem?_eq_none (by simp; omega)]
    rfl
end
end Go.Proofs.YtbpaeonfebmomaaDoor

namespace Go.Proofs.YtbpaeonfebmomaaDoor
open Go.RowKit
set_option linter.unusedVariables false
set_option linter.unusedSimpArgs false

/-- One outcome, whatever is asked of it. -/
def Pt (F : (Value → Mem → Prop) → Prop) : Prop := ∀ K, F K → ∃ v M', K v M' ∧ ∀ K' : Value → Mem → Prop, K' v M' → F K'
theorem Pt.leaf {v : Value} {M : Mem} : Pt fun K => K v M := fun K h => ⟨v, M, h, fun _ h => h⟩
theorem Pt.ff : Pt fun _ => False := fun K h => h.elim
theorem Pt.ow {α : Type} {o : Option α} {F : α → (Value → Mem → Prop) → Prop} (h : ∀ a, Pt (F a)) : Pt fun K => ow o fun a => F a K := by
  cases o with
  | none => exact .ff
  | some a => exact h a
theorem Pt.and {p : Prop} {F : (Value → Mem → Prop) → Prop} (h : Pt F) : Pt fun K => p ∧ F K := by
  intro K hK
  obtain ⟨v, M', h1, h2⟩ := h K hK.2
  exact ⟨v, M', h1, fun K' h' => ⟨hK.1, h2 K' h'⟩⟩
theorem Pt.imp {p : Prop} {F G : (Value → Mem → Prop) → Prop} (h : Pt F) (h' : Pt G) : Pt fun K => (p → F K) ∧ (¬ p → G K) := by
  intro K hK
  by_cases hp : p
  · obtain ⟨v, M', h1, h2⟩ := h K (hK.1 hp)
    exact ⟨v, M', h1, fun K' h' => ⟨fun _ => h2 K' h', fun hn => absurd hp hn⟩⟩
  · obtain ⟨v, M', h1, h2⟩ := h' K (hK.2 hp)
    exact ⟨v, M', h1, fun K' h' => ⟨fun hn => absurd hn hp, fun _ => h2 K' h'⟩⟩
theorem Pt.ite {p : Prop} [Decidable p] {F G : (Value → Mem → Prop) → Prop} (h : Pt F) (h' : Pt G) : Pt fun K => if p then F K else G K := by
  by_cases hp : p
  · simpa [hp] using h
  · simpa [hp] using h'
theorem Pt.call {P : Program} {b : Nat} {g : FuncId} {args : List Value} {M : Mem} : Pt fun K => awCall P true b g args M K := by
  intro K h
  rcases h with ⟨v, M', hd, hK⟩ | ⟨h, -⟩
  · exact ⟨v, M', hK, fun K' h' => .inl ⟨v, M', hd, h'⟩⟩
  · cases h

section
variable {P : Program} {b : Nat} {S : St}
theorem pt_load {t : TypeId} {v : Value} : Pt fun K => loadK P S t K v := by
  unfold loadK
  split
  · refine .ow fun k => ?_
    cases k with
    | none => exact .ow fun _ => .leaf
    | some k => exact .ow fun _ => .leaf
  · exact .ff
theorem pt_store {t : TypeId} {p v : Value} : Pt fun K => storeK P b S t K p v := by
  unfold storeK
  split
  · exact .and (.ow fun _ => .leaf)
  · exact .ff
theorem pt_append {t tx : TypeId} {s x : Value} : Pt fun K => appendK P b S K t tx s x := by
  unfold appendK
  refine .ow fun q => .ow fun mn => .and (.and ?_)
  split
  · exact .and (.and (.and (.imp .leaf .leaf)))
  · split
    · exact .and (.and (.and (.imp .leaf (.ite .leaf (.and .leaf)))))
    · exact .ff
  · exact .ff
theorem pt_b2s {src dst : TypeId} {x : Value} : Pt fun K => b2sK P S K src dst x := by
  unfold b2sK
  refine .and (.ow fun q => .and (.and ?_))
  split
  · exact .and .leaf
  · exact .ow fun _ => .ow fun _ => .leaf
  · exact .ff
theorem pt_s2 {src dst : TypeId} {s : ByteArray} : Pt fun K => s2K P S K src dst s := by
  unfold s2K
  split
  · exact .and .leaf
  · exact .ow fun _ => .leaf
theorem pt_make {t : TypeId} {x y : Value} : Pt fun K => makeK P S K t x y := by
  unfold makeK
  split
  · exact .ow fun _ => .ow fun _ => .and .leaf
  · exact .ff
theorem pt_slice {t : TypeId} {x : Value} {lo hi : Option Value} : Pt fun K => sliceK P S K t x lo hi := by
  unfold sliceK
  split
  · exact .and (.ow fun _ => .ow fun _ => .and .leaf)
  · exact .and (.ow fun _ => .ow fun _ => .ow fun _ => .and .leaf)
  · exact .ow fun _ => .ow fun _ => .ow fun _ => .and (.and .leaf)
  · exact .ff
theorem pt_len {t : TypeId} {x : Value} : Pt fun K => lenK P S K t x := by
  unfold lenK
  split
  · exact .leaf
  · exact .leaf
  · exact .ff
theorem pt_fieldAddr {off : Nat} {v : Value} : Pt fun K => fieldAddrK S K off v := by
  unfold fieldAddrK
  split
  · exact .leaf
  · exact .ff
theorem pt_indexAddr {esz : Nat} {v i : Value} : Pt fun K => indexAddrK S K esz v i := by
  unfold indexAddrK
  split
  · exact .and .leaf
  · exact .ff
theorem pt_index {v i : Value} : Pt fun K => indexK S K v i := by
  unfold indexK
  split
  · exact .and .leaf
  · exact .ff
theorem pt_callV {f : Value} {as1 : List Value} : Pt fun K => callV P true b S K f as1 := by
  unfold callV
  split
  · exact .call
  · exact .ff
theorem awOp_pt (o : Oper) : Pt fun K => awOp P true b o S K := by
  unfold awOp
  split
  · exact .ow fun _ => .leaf
  · exact .ow fun _ => .leaf
  · refine .ow fun cv => .ow fun u => .ow fun v => ?_
    split
    · exact .leaf
    · exact .ff
  · exact .ow fun _ => .leaf
  · exact .ow fun _ => .leaf
  · exact .ow fun _ => .ow fun _ => .ow fun _ => .leaf
  · exact .ow fun _ => .ow fun _ => .ow fun _ => .and (.ow fun _ => .leaf)
  · exact .ow fun _ => pt_load
  · exact .ow fun _ => .ow fun _ => pt_store
  · refine .ow fun u => ?_
    split
    · exact .leaf
    · exact .leaf
    · exact .ff
  · exact .ow fun _ => .ow fun _ => .ow fun _ => .leaf
  · exact .ow fun _ => .ow fun _ => .leaf
  · refine .ow fun u => ?_
    split
    · exact pt_b2s
    · exact pt_s2
    · exact .ow fun _ => .leaf
  · exact .ow fun _ => .ow fun _ => .leaf
  · exact .ow fun _ => .ow fun _ => pt_make
  · exact .ow fun _ => .ow fun _ => .ow fun _ => pt_slice
  · exact .ow fun _ => .ow fun _ => pt_fieldAddr
  · exact .ow fun _ => .ow fun _ => .ow fun _ => .leaf
  · exact .ow fun _ => .ow fun _ => .ow fun _ => pt_indexAddr
  · exact .and (.ow fun _ => .ow fun _ => pt_index)
  · exact .ow fun _ => .ow fun _ => .leaf
  · split
    · exact .ow fun _ => .ow fun _ => pt_callV
    · exact .ow fun _ => pt_len
    · exact .ow fun _ => .ow fun _ => pt_append
    · exact .ow fun _ => .ow fun _ => .ow fun _ => .leaf
    · exact .ow fun _ => .ow fun _ => .ow fun _ => .leaf
    · exact .ff
  · exact .ff

theorem evs_congr {S' : St} {xs : List Operand} (h : ∀ x ∈ xs, S.ev x = S'.ev x) : evs S xs = evs S' xs := by
  induction xs with
  | nil => rfl
  | cons x xs ih => rw [evs_cons, evs_cons, h x (by simp), ih fun y hy => h y (by simp [hy])]
theorem partsV_congr {S' : St} {ps : List (Nat × Operand)} (h : ∀ p ∈ ps, S.ev p.2 = S'.ev p.2) : partsV S ps = partsV S' ps := by
  induction ps with
  | nil => rfl
  | cons p ps ih =>
    obtain ⟨i, x⟩ := p
    have := h (i, x) (by simp)
    simp only at this
    simp only [partsV, this, ih fun q hq => h q (by simp [hq])]
theorem evo_congr {S' : St} {x : Option Operand} (h : ∀ y, x = some y → S.ev y = S'.ev y) : evo S x = evo S' x := by
  cases x with
  | none => rfl
  | some y => simp only [evo, h y rfl]
theorem awOp_congr {d : Bool} {S' : St} {o : Oper} {K : Value → Mem → Prop} (hM : S'.M = S.M) (h : ∀ x ∈ o.op.operands.toList, S.ev x = S'.ev x) (hK : awOp P d b o S K) : awOp P d b o S' K := by
  obtain ⟨n, T, M⟩ := S
  obtain ⟨n', T', M'⟩ := S'
  simp only at hM
  subst hM
  unfold awOp at hK ⊢
  split at hK
  · rename_i x hop
    rw [hop] at h
    try simp only [hop]
    rw [← h x (by simp [Op.operands])]
    exact hK
  · rename_i x hop
    rw [hop] at h
    try simp only [hop]
    rw [← h x (by simp [Op.operands])]
    exact hK
  · rename_i c x y hop
    rw [hop] at h
    try simp only [hop]
    rw [← h c (by simp [Op.operands]), ← h x (by simp [Op.operands]), ← h y (by simp [Op.operands])]
    exact hK
  · rename_i t hop
    try simp only [hop]
    exact hK
  · rename_i t x hop
    rw [hop] at h
    try simp only [hop]
    rw [← h x (by simp [Op.operands])]
    exact hK
  · rename_i t ps hop
    rw [hop] at h
    try simp only [hop]
    rw [← partsV_congr fun p hp => h p.2 (by simp only [Op.operands]; exact List.mem_map.2 ⟨p, hp, rfl⟩)]
    exact hK
  · rename_i t n' ps hop
    rw [hop] at h
    try simp only [hop]
    rw [← partsV_congr fun p hp => h p.2 (by simp only [Op.operands]; exact List.mem_map.2 ⟨p, hp, rfl⟩)]
    exact hK
  · rename_i t x hop
    rw [hop] at h
    try simp only [hop]
    rw [← h x (by simp [Op.operands])]
    exact hK
  · rename_i t x y hop
    rw [hop] at h
    try simp only [hop]
    rw [← h x (by simp [Op.operands]), ← h y (by simp [Op.operands])]
    exact hK
  · rename_i x hop
    rw [hop] at h
    try simp only [hop]
    rw [← h x (by simp [Op.operands])]
    exact hK
  · rename_i op t x y t' hop
    rw [hop] at h
    try simp only [hop]
    rw [← h x (by simp [Op.operands]), ← h y (by simp [Op.operands])]
    exact hK
  · rename_i op t x hop
    rw [hop] at h
    try simp only [hop]
    rw [← h x (by simp [Op.operands])]
    exact hK
  · rename_i src dst x hop
    rw [hop] at h
    try simp only [hop]
    rw [← h x (by simp [Op.operands])]
    exact hK
  · rename_i fn first captured hop
    rw [hop] at h
    try simp only [hop]
    rw [← evs_congr fun x hx => h x (by simp only [Op.operands, Array.toList_append, List.mem_append]; exact .inl hx), ← evs_congr fun x hx => h x (by simp only [Op.operands, Array.toList_append, List.mem_append]; exact .inr hx)]
    exact hK
  · rename_i t x y hop
    rw [hop] at h
    try simp only [hop]
    rw [← h x (by simp [Op.operands]), ← h y (by simp [Op.operands])]
    exact hK
  · rename_i t x lo hi hop
    rw [hop] at h
    try simp only [hop]
    rw [← h x (by simp [Op.operands]), ← evo_congr (x := lo) fun y hy => h y (by simp [Op.operands, hy]), ← evo_congr (x := hi) fun y hy => h y (by simp [Op.operands, hy])]
    exact hK
  · rename_i t x f hop
    rw [hop] at h
    try simp only [hop]
    rw [← h x (by simp [Op.operands])]
    exact hK
  · rename_i t x f hop
    rw [hop] at h
    try simp only [hop]
    rw [← h x (by simp [Op.operands])]
    exact hK
  · rename_i t x y hop
    rw [hop] at h
    try simp only [hop]
    rw [← h x (by simp [Op.operands]), ← h y (by simp [Op.operands])]
    exact hK
  · rename_i t x y hop
    rw [hop] at h
    try simp only [hop]
    rw [← h x (by simp [Op.operands]), ← h y (by simp [Op.operands])]
    exact hK
  · rename_i x i hop
    rw [hop] at h
    try simp only [hop]
    rw [← h x (by simp [Op.operands])]
    exact hK
  · rename_i c hop
    rw [hop] at h
    have hargs : ∀ x ∈ c.args.toList, (⟨n, T, M'⟩ : St).ev x = (⟨n', T', M'⟩ : St).ev x := fun x hx => h x (by
      simp only [Op.operands, Call.operands, Array.toList_append, List.mem_append]
      exact .inr hx)
    split at hK
    · rename_i _ _ f h1
      have hf : (⟨n, T, M'⟩ : St).ev f = (⟨n', T', M'⟩ : St).ev f := h f (by simp [Op.operands, Call.operands, h1])
      try simp only [hop, h1]
      rw [← hf, ← evs_congr hargs]
      exact hK
    · rename_i x t h1 h2 h3
      have := hargs x (by simp [h2])
      try simp only [hop, h1, h2, h3]
      rw [← this]
      exact hK
    · rename_i s x t tx h1 h2 h3
      have e1 := hargs s (by simp [h2])
      have e2 := hargs x (by simp [h2])
      try simp only [hop, h1, h2, h3]
      rw [← e1, ← e2]
      exact hK
    · rename_i _ x y h1 h2
      have e1 := hargs x (by simp [h2])
      have e2 := hargs y (by simp [h2])
      try simp only [hop, h1, h2]
      rw [← e1, ← e2]
      exact hK
    · rename_i _ x y h1 h2
      have e1 := hargs x (by simp [h2])
      have e2 := hargs y (by simp [h2])
      try simp only [hop, h1, h2]
      rw [← e1, ← e2]
      exact hK
    · exact hK.elim
  · exact hK.elim
end
end Go.Proofs.YtbpaeonfebmomaaDoor

namespace Go.Proofs.YtbpaeonfebmomaaDoor
open Go.RowKit
set_option linter.unusedVariables false
set_option linter.unusedSimpArgs false

def holes (s : List Slot) : List Slot := s.map fun _ => .hole
@[simp] theorem holes_len (s : List Slot) : (holes s).length = s.length := by simp [holes]
@[simp] theorem holes_nil : holes [] = [] := rfl
theorem holes_get {s : List Slot} {i : Nat} {x : Slot} (h : (holes s)[i]? = some x) : x = .hole := by
  unfold holes at h
  rw [List.getElem?_map] at h
  obtain ⟨y, -, hy⟩ := Option.map_eq_some_iff.1 h
  exact hy.symm
/-- Segments, those that p does not name as holes. -/
def maskP : List (List Slot) → Nat → (Nat → Bool) → List Slot
  | [], _, _ => []
  | s :: ss, j, p => (if p j = true then s else holes s) ++ maskP ss (j + 1) p
theorem maskP_append (p : Nat → Bool) : ∀ (A B : List (List Slot)) (j : Nat), maskP (A ++ B) j p = maskP A j p ++ maskP B (j + A.length) p
  | [], B, j => by simp [maskP]
  | s :: A, B, j => by
    simp only [List.cons_append, maskP, List.append_assoc]
    rw [maskP_append p A B (j + 1)]
    simp only [List.length_cons, List.append_assoc]
    rw [show j + 1 + A.length = j + (A.length + 1) by omega]
theorem maskP_len (p q : Nat → Bool) : ∀ (A : List (List Slot)) (j : Nat), (maskP A j p).length = (maskP A j q).length
  | [], _ => rfl
  | s :: A, j => by
    simp only [maskP, List.length_append, maskP_len p q A (j + 1)]
    by_cases h1 : p j = true <;> by_cases h2 : q j = true <;> simp [h1, h2]
theorem maskP_congr {p q : Nat → Bool} : ∀ (A : List (List Slot)) (j : Nat), (∀ i, j ≤ i → i < j + A.length → p i = q i) → maskP A j p = maskP A j q
  | [], _, _ => rfl
  | s :: A, j, h => by
    simp only [maskP]
    rw [h j (Nat.le_refl _) (by simp), maskP_congr A (j + 1) fun i h1 h2 => h i (by omega) (by simp; omega)]
theorem maskP_all : ∀ (A : List (List Slot)) (j : Nat) (p : Nat → Bool), (∀ i, j ≤ i → i < j + A.length → p i = true) → maskP A j p = A.flatten
  | [], _, _, _ => rfl
  | s :: A, j, p, h => by
    simp only [maskP, List.flatten_cons]
    rw [if_pos (h j (Nat.le_refl _) (by simp)), maskP_all A (j + 1) p fun i h1 h2 => h i (by omega) (by simp; omega)]
/-- What A knows, B knows. -/
def Sub (A B : Mem) : Prop := ∀ (i : Nat) s, A[i]? = some s → s.known = true → B[i]? = some s
theorem Sub.refl (A : Mem) : Sub A A := fun _ _ h _ => h
theorem Sub.trans {A B C : Mem} (h : Sub A B) (h' : Sub B C) : Sub A C := fun i s hs hk => h' i s (h i s hs hk) hk
theorem Sub.append {A B C D : Mem} (hl : A.length = B.length) (h : Sub A B) (h' : Sub C D) : Sub (A ++ C) (B ++ D) := by
  intro i s hs hk
  by_cases hi : i < A.length
  · rw [List.getElem?_append_left hi] at hs
    rw [List.getElem?_append_left (by omega)]
    exact h i s hs hk
  · rw [List.getElem?_append_right (by omega)] at hs
    rw [List.getElem?_append_right (by omega), ← hl]
    exact h' _ s hs hk
theorem Sub.left {A B : Mem} (C : Mem) (h : Sub A B) : Sub A (B ++ C) := by
  intro i s hs hk
  have := h i s hs hk
  rw [List.getElem?_append_left (List.getElem?_eq_some_iff.1 this).1]
  exact this
theorem sub_holes (s t : List Slot) : Sub (holes s) t := fun i x hx hk => by rw [holes_get hx] at hk; cases hk
theorem maskP_sub {p q : Nat → Bool} : ∀ (A : List (List Slot)) (j : Nat), (∀ i, j ≤ i → i < j + A.length → p i = true → q i = true) → Sub (maskP A j p) (maskP A j q)
  | [], _, _ => .refl _
  | s :: A, j, h => by
    simp only [maskP]
    have hl : (if p j = true then s else holes s).length = (if q j = true then s else holes s).length := by
      by_cases h1 : p j = true <;> by_cases h2 : q j = true <;> simp [h1, h2]
    refine .append hl ?_ (maskP_sub A (j + 1) fun i h1 h2 => h i (by omega) (by simp; omega))
    by_cases h1 : p j = true
    · rw [if_pos h1, if_pos (h j (Nat.le_refl _) (by simp) h1)]; exact .refl _
    · rw [if_neg h1]; exact sub_holes _ _

section
variable {b : Nat} {A B M : Mem} {μ μ' : Map} {w w' : World}
theorem VRel.sub {v c : Value} (h : VRel A μ v c) (hs : Sub A B) : VRel B μ v c := h.same fun i s hi hk => ⟨hs i s hi hk, rfl, rfl⟩
/-- The same maps at what is known. -/
def MapEq (A : Mem) (μ μ' : Map) : Prop := ∀ (i : Nat) s, A[i]? = some s → s.known = true → μ'.at_ i = μ.at_ i ∧ μ'.room i = μ.room i
theorem VRel.remap {v c : Value} (h : VRel A μ v c) (hm : MapEq A μ μ') : VRel A μ' v c := h.same fun i s hi hk => ⟨hi, hm i s hi hk⟩
theorem RowRel.remap {id : Nat} {r : Row} (h : RowRel A μ w id r) (hi : A[id]? = some (.live r)) (hm : MapEq A μ μ') : RowRel A μ' w id r := by
  obtain ⟨h1, h2⟩ := hm id _ hi rfl
  refine ⟨by rw [h1]; exact h.lt, fun j c hc => ?_, fun ho => ?_⟩
  · obtain ⟨d, hd, hv⟩ := h.cell j c hc
    exact ⟨d, by rw [h1]; exact hd, hv.remap hm⟩
  · rw [h1, h2]; exact h.own ho
theorem RowRel.grow {id : Nat} {r : Row} (h : RowRel A μ w id r) (hb : ∀ k, k < w.heap.size → w'.heap[k]? = w.heap[k]?) (hs : w.heap.size ≤ w'.heap.size) : RowRel A μ w' id r := by
  refine ⟨Nat.lt_of_lt_of_le h.lt hs, fun j c hc => ?_, fun ho => ?_⟩
  · obtain ⟨d, hd, hv⟩ := h.cell j c hc
    exact ⟨d, by rw [World.cell?_of_block (w := w) (hb _ (by rw [block_add_]; exact h.lt))]; exact hd, hv⟩
  · obtain ⟨g, cur, fr, e1, e2, e3⟩ := h.own ho
    exact ⟨g, cur, fr, e1, by rw [hb g (by have := h.lt; rw [e1] at this; exact this)]; exact e2, e3⟩
theorem RowRel.sub {id : Nat} {r : Row} (h : RowRel A μ w id r) (hs : Sub A B) : RowRel B μ w id r := by
  refine ⟨h.lt, fun j c hc => ?_, h.own⟩
  obtain ⟨d, hd, hv⟩ := h.cell j c hc
  exact ⟨d, hd, hv.sub hs⟩
theorem Sim.remap (h : Sim A μ w) (hm : MapEq A μ μ') : Sim A μ' w :=
  ⟨fun id r hr => (h.row id r hr).remap hr hm, fun i j r s hi hj hne ho => by rw [(hm i _ hi rfl).1, (hm j _ hj rfl).1]; exact h.inj i j r s hi hj hne ho, fun hon => ⟨(h.glob hon).1, (h.glob hon).2.1, fun id r hr ho => by rw [(hm id _ hr rfl).1]; exact (h.glob hon).2.2 id r hr ho⟩⟩
theorem Sim.grow (h : Sim A μ w) (hb : ∀ k, k < w.heap.size → w'.heap[k]? = w.heap[k]?) (hs : w.heap.size ≤ w'.heap.size) : Sim A μ w' :=
  ⟨fun id r hr => (h.row id r hr).grow hb hs, h.inj, fun hon => ⟨by rw [hb _ (h.glob hon).2.1]; exact (h.glob hon).1, Nat.lt_of_lt_of_le (h.glob hon).2.1 hs, (h.glob hon).2.2⟩⟩

/-- A stable operation's outcome is laid into a memory that knows more. -/
theorem Sim.merge {L N R Mk : Mem} (hl : Mk.length = L.length) (hsub : Sub Mk L) (hA : Sim (L ++ (holes N ++ R)) μ w) (hN : Sim (Mk ++ N) μ' w') (hst : Step Mk.length Mk μ w (Mk ++ N) μ' w')
    {M0 : Mem} {μ0 : Map} {w0 : World} (hM0 : M0.length ≤ L.length) (h0 : Step b M0 μ0 w0 (L ++ (holes N ++ R)) μ w) :
    ∃ μ2, Sim (L ++ (N ++ R)) μ2 w' ∧ Step b M0 μ0 w0 (L ++ (N ++ R)) μ2 w' ∧ MapEq (L ++ (holes N ++ R)) μ μ2 ∧ MapEq (Mk ++ N) μ' μ2 := by
  let μ2 : Map := ⟨fun i => if L.length ≤ i ∧ i < L.length + N.length then μ'.at_ i else μ.at_ i, fun i => if L.length ≤ i ∧ i < L.length + N.length then μ'.room i else μ.room i⟩
  have hblk : ∀ k, k < w.heap.size → w'.heap[k]? = w.heap[k]? := fun k hk => hst.block k hk fun i r hi hr _ => absurd (List.getElem?_eq_some_iff.1 hr).1 (by omega)
  have m1 : MapEq (L ++ (holes N ++ R)) μ μ2 := by
    intro i s hi hk
    have hn : ¬ (L.length ≤ i ∧ i < L.length + N.length) := by
      rintro ⟨h1, h2⟩
      rw [List.getElem?_append_right h1, List.getElem?_append_left (by simp; omega)] at hi
      rw [holes_get hi] at hk
      cases hk
    exact ⟨if_neg hn, if_neg hn⟩
  have m2 : MapEq (Mk ++ N) μ' μ2 := by
    intro i s hi hk
    by_cases h1 : L.length ≤ i ∧ i < L.length + N.length
    · exact ⟨if_pos h1, if_pos h1⟩
    · have hlt := (List.getElem?_eq_some_iff.1 hi).1
      rw [List.length_append] at hlt
      have := hst.map i (by omega)
      exact ⟨(if_neg h1).trans this.1.symm, (if_neg h1).trans this.2.symm⟩
  have s1 : Sub (L ++ (holes N ++ R)) (L ++ (N ++ R)) := .append rfl (.refl _) (.append (by simp) (sub_holes _ _) (.refl _))
  have s2 : Sub (Mk ++ N) (L ++ (N ++ R)) := .append hl hsub ((Sub.refl _).left _)
  -- a known slot of the whole: old, or new
  have part : ∀ (i : Nat) r, (L ++ (N ++ R))[i]? = some (.live r) → (L ++ (holes N ++ R))[i]? = some (.live r) ∨ ((Mk ++ N)[i]? = some (.live r) ∧ Mk.length ≤ i) := by
    intro i r hi
    by_cases h1 : i < L.length
    · rw [List.getElem?_append_left h1] at hi
      left; rw [List.getElem?_append_left h1]; exact hi
    · rw [List.getElem?_append_right (by omega)] at hi
      by_cases h2 : i - L.length < N.length
      · rw [List.getElem?_append_left h2] at hi
        right
        rw [List.getElem?_append_right (by omega), hl]
        exact ⟨hi, by omega⟩
      · rw [List.getElem?_append_right (by omega)] at hi
        left
        rw [List.getElem?_append_right (by omega), List.getElem?_append_right (by simp; omega), holes_len]
        exact hi
  have newlt : ∀ (i : Nat) r, (Mk ++ N)[i]? = some (.live r) → Mk.length ≤ i → w.heap.size ≤ (μ'.at_ i).block := by
    intro i r hi hle
    rcases hst.fresh i r hle hi with h | ⟨j, r0, hj, h1, -⟩
    · exact h
    · exact absurd (List.getElem?_eq_some_iff.1 h1).1 (by omega)
  have hA2 : Sim (L ++ (holes N ++ R)) μ2 w' := (hA.grow hblk hst.size).remap m1
  have hN2 : Sim (Mk ++ N) μ2 w' := hN.remap m2
  refine ⟨μ2, ⟨fun i r hi => ?_, fun i j r s hi hj hne ho => ?_, fun hon => ⟨(hA2.glob hon).1, (hA2.glob hon).2.1, fun i r hi ho => ?_⟩⟩, ⟨fun i s hs => ?_, fun i hi => ?_, ?_, ?_, ?_, ?_, fun k hk hn => ?_, fun i r hi hr => ?_⟩, m1, m2⟩
  · rcases part i r hi with h | ⟨h, -⟩
    · exact (hA2.row i r h).sub s1
    · exact (hN2.row i r h).sub s2
  · rcases part i r hi with h | ⟨h, hi'⟩ <;> rcases part j s hj with k | ⟨k, hj'⟩
    · exact hA2.inj i j r s h k hne ho
    · have a1 := (hA.row i r h).lt
      have a2 := newlt j s k hj'
      rw [(m1 i _ h rfl).1, (m2 j _ k rfl).1]
      omega
    · have a1 := (hA.row j s k).lt
      have a2 := newlt i r h hi'
      rw [(m2 i _ h rfl).1, (m1 j _ k rfl).1]
      omega
    · exact hN2.inj i j r s h k hne ho
  · rcases part i r hi with h | ⟨h, -⟩
    · exact (hA2.glob hon).2.2 i r h ho
    · exact (hN2.glob hon).2.2 i r h ho
  · obtain ⟨s', h1, h2⟩ := h0.slot i s hs
    have hi := (List.getElem?_eq_some_iff.1 hs).1
    rw [List.getElem?_append_left (by omega)] at h1
    exact ⟨s', by rw [List.getElem?_append_left (by omega)]; exact h1, h2⟩
  · have hn : ¬ (L.length ≤ i ∧ i < L.length + N.length) := by omega
    exact ⟨(if_neg hn).trans (h0.map i hi).1, (if_neg hn).trans (h0.map i hi).2⟩
  · exact hst.os.trans h0.os
  · exact hst.tape.trans h0.tape
  · exact hst.output.trans h0.output
  · exact Nat.le_trans h0.size hst.size
  · rw [hblk k (Nat.lt_of_lt_of_le hk h0.size), h0.block k hk hn]
  · rcases part i r hr with h | ⟨h, hi'⟩
    · rw [(m1 i _ h rfl).1]; exact h0.fresh i r hi h
    · rw [(m2 i _ h rfl).1]; exact .inl (Nat.le_trans h0.size (newlt i r h hi'))
end
end Go.Proofs.YtbpaeonfebmomaaDoor

namespace Go.Proofs.YtbpaeonfebmomaaDoor
open Go.RowKit
set_option linter.unusedVariables false
set_option linter.unusedSimpArgs false

def dstOf (ops : Array Oper) (j : Nat) : Option Tmp := (ops[j]?).bind (·.dst)
def awG (ops : Array Oper) (o : Oper) (S : St) (A B : Prop) : Prop :=
  match o.guard with
  | none => A
  | some (j, want) => ow ((dstOf ops j).bind S.get) fun g => match g with
    | .bool y => (y = want → A) ∧ (y = !want → B)
    | .tuple _ => B
    | _ => False
/-- The stable operations, in the order of the text; dp: on which each hangs; segs: what each has laid. -/
noncomputable def awD (P : Program) (ops : Array Oper) (dp : List (List Nat)) (n : Nat) (M0 : Mem) (Q : St → Prop) : List Oper → Nat → List (Nat × Value) → List (List Slot) → Prop
  | [], _, T, segs => Q ⟨n, T, M0 ++ segs.flatten⟩
  | o :: os, k, T, segs =>
    awG ops o ⟨n, T, M0 ++ maskP segs 0 fun j => (dp.getD k []).contains j⟩
      (awOp P true (M0 ++ maskP segs 0 fun j => (dp.getD k []).contains j).length o ⟨n, T, M0 ++ maskP segs 0 fun j => (dp.getD k []).contains j⟩ fun v M' =>
        awD P ops dp n M0 Q os (k + 1) (St.put ⟨n, T, M0⟩ o.dst v).T (segs ++ [M'.drop (M0 ++ maskP segs 0 fun j => (dp.getD k []).contains j).length]))
      (awD P ops dp n M0 Q os (k + 1) (St.put ⟨n, T, M0⟩ o.dst undef).T (segs ++ [[]]))
def tmpsOf (o : Oper) : List Tmp := o.op.operands.toList.filterMap fun | .tmp t => some t | _ => none
def drawBase (ops : Array Oper) (m : Nat) (dp : List (List Nat)) : Bool :=
  decide (m ≤ ops.size) &&
  ((List.range ops.size).all fun k => match ops[k]? with
    | none => false
    | some o =>
      (o.after.all fun e => !Region.binds .any e || decide (e.on < k)) &&
      ((dp.getD k []).all fun j => decide (j < k) && o.after.any fun e => Region.binds .any e && (e.on == j || (dp.getD e.on []).contains j)) &&
      (if k < m then
        ((dp.getD k []).all fun j => (dp.getD j []).all fun i => (dp.getD k []).contains i) &&
        ((tmpsOf o).all fun t => (List.range m).all fun j => dstOf ops j != some t || (dp.getD k []).contains j) &&
        (match o.guard with | none => true | some (j, _) => (dp.getD k []).contains j) &&
        ((List.range k).all fun j => o.dst.isNone || dstOf ops j != o.dst)
      else true))
def drawTail (ops : Array Oper) (m : Nat) (dp : List (List Nat)) : Bool := (List.range ops.size).all fun k => decide (k < m) || (List.range k).all fun j => (dp.getD k []).contains j
def drawOk (ops : Array Oper) (m : Nat) (dp : List (List Nat)) : Bool := drawBase ops m dp && drawTail ops m dp
theorem drawOk_tail {ops : Array Oper} {m : Nat} {dp : List (List Nat)} (h : drawOk ops m dp = true) : ∀ k, m ≤ k → k < ops.size → ∀ j, j < k → (dp.getD k []).contains j = true := by
  unfold drawOk at h
  rw [Bool.and_eq_true] at h
  intro k hm hk j hj
  have := List.all_eq_true.1 h.2 k (List.mem_range.2 hk)
  rw [Bool.or_eq_true] at this
  rcases this with h1 | h1
  · have := of_decide_eq_true h1; omega
  · exact List.all_eq_true.1 h1 j (List.mem_range.2 hj)
structure DrawOk (ops : Array Oper) (m : Nat) (dp : List (List Nat)) : Prop where
  le : m ≤ ops.size
  back : ∀ k o, ops[k]? = some o → ∀ e ∈ o.after.toList, Region.binds .any e = true → e.on < k
  dep : ∀ k o, ops[k]? = some o → ∀ j, (dp.getD k []).contains j = true → j < k ∧ ∃ e ∈ o.after.toList, Region.binds .any e = true ∧ (e.on = j ∨ (dp.getD e.on []).contains j = true)
  trans : ∀ k, k < m → ∀ j, (dp.getD k []).contains j = true → ∀ i, (dp.getD j []).contains i = true → (dp.getD k []).contains i = true
  reads : ∀ k o, k < m → ops[k]? = some o → ∀ t, .tmp t ∈ o.op.operands.toList → ∀ j, j < m → dstOf ops j = some t → (dp.getD k []).contains j = true
  guard : ∀ k o j y, k < m → ops[k]? = some o → o.guard = some (j, y) → (dp.getD k []).contains j = true
  apart : ∀ k t j, k < m → dstOf ops k = some t → j < k → dstOf ops j ≠ some t
theorem drawBase_spec {ops : Array Oper} {m : Nat} {dp : List (List Nat)} (h : drawBase ops m dp = true) : DrawOk ops m dp := by
  unfold drawBase at h
  rw [Bool.and_eq_true] at h
  obtain ⟨h1, h2⟩ := h
  have h1 : m ≤ ops.size := of_decide_eq_true h1
  have h2 := List.all_eq_true.1 h2
  have at_ : ∀ k o, ops[k]? = some o → _ := fun k o ho => by
    have := h2 k (List.mem_range.2 (Array.getElem?_eq_some_iff.1 ho).1)
    rw [ho] at this
    simp only [Bool.and_eq_true] at this
    exact this
  refine ⟨h1, fun k o ho e he hb => ?_, fun k o ho j hj => ?_, fun k hk j hj i hi => ?_, fun k o hk ho t ht j hj hd => ?_, fun k o j y hk ho hg => ?_, fun k t j hk hd hj hd' => ?_⟩
  · have := (at_ k o ho).1.1
    rw [Array.all_eq_true] at this
    obtain ⟨i, hi, rfl⟩ := List.getElem_of_mem he
    have := this i (by simpa using hi)
    simp at hb
    simpa [hb] using this
  · have := (at_ k o ho).1.2
    rw [List.all_eq_true] at this
    have := this j (by simpa using hj)
    simp only [Bool.and_eq_true, decide_eq_true_eq, Array.any_eq_true] at this
    obtain ⟨h3, i, hi, h4, h5⟩ := this
    refine ⟨h3, o.after[i], by simp, h4, ?_⟩
    simpa using h5
  · obtain ⟨o, ho⟩ : ∃ o, ops[k]? = some o := ⟨_, Array.getElem?_eq_getElem (by omega)⟩
    have := (at_ k o ho).2
    rw [if_pos hk] at this
    simp only [Bool.and_eq_true, List.all_eq_true] at this
    exact this.1.1.1 j (by simpa using hj) i (by simpa using hi)
  · have := (at_ k o ho).2
    rw [if_pos hk] at this
    simp only [Bool.and_eq_true, List.all_eq_true] at this
    have := this.1.1.2 t (List.mem_filterMap.2 ⟨_, ht, rfl⟩) j (by simpa using hj)
    simpa [hd] using this
  · have := (at_ k o ho).2
    rw [if_pos hk] at this
    simp only [Bool.and_eq_true] at this
    have := this.1.2
    rw [hg] at this
    exact this
  · obtain ⟨o, ho⟩ : ∃ o, ops[k]? = some o := ⟨_, Array.getElem?_eq_getElem (by omega)⟩
    have hod : o.dst = some t := by simpa [dstOf, ho] using hd
    have := (at_ k o ho).2
    rw [if_pos hk] at this
    simp only [Bool.and_eq_true, List.all_eq_true] at this
    have := this.2 j (by simpa using hj)
    simp [hod, hd'] at this
theorem drawOk_spec {ops : Array Oper} {m : Nat} {dp : List (List Nat)} (h : drawOk ops m dp = true) : DrawOk ops m dp := by
  unfold drawOk at h
  rw [Bool.and_eq_true] at h
  exact drawBase_spec h.1

theorem look_filter {p : Nat → Bool} : ∀ (T : List (Nat × Value)) (t : Nat), look (T.filter fun e => p e.1) t = if p t = true then look T t else none
  | [], t => by simp [look]
  | (u, v) :: T, t => by
    simp only [List.filter_cons, look]
    by_cases hu : p u = true
    · rw [if_pos hu]
      simp only [look]
      by_cases ht : t = u
      · subst ht; simp [hu]
      · rw [if_neg ht, if_neg ht]; exact look_filter T t
    · rw [if_neg hu]
      by_cases ht : t = u
      · subst ht
        rw [look_filter T t, if_neg hu, if_neg hu]
      · rw [if_neg ht]; exact look_filter T t

/-- What is known of each stable operation: its environment, its outcome, its new slots. -/
structure Outs (P : Program) (ops : Array Oper) (dp : List (List Nat)) (n : Nat) (M0 : Mem) (m : Nat) (T : Nat → List (Nat × Value)) (vs : Nat → Value) (Ns : List (List Slot)) : Prop where
  len : Ns.length = m
  env : ∀ k o, k < m → ops[k]? = some o → T (k + 1) = (St.put ⟨n, T k, M0⟩ o.dst (vs k)).T
  out : ∀ k o, k < m → ops[k]? = some o → let M := M0 ++ maskP (Ns.take k) 0 fun j => (dp.getD k []).contains j
    awG ops o ⟨n, T k, M⟩ (∃ M', Ns[k]? = some (M'.drop M.length) ∧ ∀ K' : Value → Mem → Prop, K' (vs k) M' → awOp P true M.length o ⟨n, T k, M⟩ K') (vs k = undef ∧ Ns[k]? = some [])
theorem awG_imp {ops : Array Oper} {o : Oper} {S : St} {A B A' B' C : Prop} (h : awG ops o S A B) (ha : A → ∃ x : C, A') : True := trivial
theorem awG_cases {ops : Array Oper} {o : Oper} {S : St} {A B : Prop} (h : awG ops o S A B) : (A ∧ ∀ B', awG ops o S A B') ∨ (B ∧ ∀ A', awG ops o S A' B) := by
  unfold awG at h ⊢
  cases hg : o.guard with
  | none => rw [hg] at h; exact .inl ⟨h, fun _ => h⟩
  | some jw =>
    obtain ⟨j, want⟩ := jw
    rw [hg] at h
    obtain ⟨g, h1, h2⟩ := ow_iff.1 h
    simp only [h1, ow_some]
    cases g <;> simp only at h2 <;> try exact h2.elim
    · rename_i y
      by_cases hy : y = want
      · have ha := h2.1 hy
        exact .inl ⟨ha, fun B' => ⟨fun _ => ha, fun h => by subst hy; cases y <;> cases h⟩⟩
      · have hb := h2.2 (by cases y <;> cases want <;> simp_all)
        exact .inr ⟨hb, fun A' => ⟨fun h => absurd h hy, fun _ => hb⟩⟩
    · exact .inr ⟨h2, fun _ => h2⟩
theorem awG_mono {ops : Array Oper} {o : Oper} {S : St} {A B A' B' : Prop} (h : awG ops o S A B) (ha : A → A') (hb : B → B') : awG ops o S A' B' := by
  unfold awG at h ⊢
  cases hg : o.guard with
  | none => rw [hg] at h; exact ha h
  | some jw =>
    obtain ⟨j, want⟩ := jw
    rw [hg] at h
    obtain ⟨g, h1, h2⟩ := ow_iff.1 h
    simp only [h1, ow_some]
    cases g <;> simp only at h2 ⊢ <;> try exact h2.elim
    · exact ⟨fun h => ha (h2.1 h), fun h => hb (h2.2 h)⟩
    · exact hb h2
theorem awD_outs {P : Program} {ops : Array Oper} {dp : List (List Nat)} {n : Nat} {M0 : Mem} {Q : St → Prop} : ∀ (os : List Oper) (k m : Nat) (T : Nat → List (Nat × Value)) (vs : Nat → Value) (Ns : List (List Slot)),
    (∀ i, os[i]? = if i < os.length then ops[k + i]? else none) → k + os.length = m → Outs P ops dp n M0 k T vs Ns → awD P ops dp n M0 Q os k (T k) Ns →
    ∃ T' vs' Ns', Outs P ops dp n M0 m T' vs' Ns' ∧ T' 0 = T 0 ∧ Q ⟨n, T' m, M0 ++ Ns'.flatten⟩ := by
  intro os
  induction os with
  | nil =>
    intro k m T vs Ns _ hm hO h
    simp only [List.length_nil, Nat.add_zero] at hm
    subst hm
    exact ⟨T, vs, Ns, hO, rfl, h⟩
  | cons o os ih =>
    intro k m T vs Ns hos hm hO h
    simp only [List.length_cons] at hm hos
    have ho : ops[k]? = some o := by have := hos 0; simpa using this.symm
    have hos' : ∀ i, os[i]? = if i < os.length then ops[k + 1 + i]? else none := fun i => by
      have := hos (i + 1)
      simp only [List.getElem?_cons_succ] at this
      rw [this]
      by_cases hi : i < os.length
      · rw [if_pos (by omega), if_pos hi, show k + (i + 1) = k + 1 + i by omega]
      · rw [if_neg (by omega), if_neg hi]
    simp only [awD] at h
    -- go on with one more outcome
    have next : ∀ (v : Value) (N : List Slot), awD P ops dp n M0 Q os (k + 1) (St.put ⟨n, T k, M0⟩ o.dst v).T (Ns ++ [N]) →
        (awG ops o ⟨n, T k, M0 ++ maskP Ns 0 fun j => (dp.getD k []).contains j⟩ (∃ M', N = M'.drop (M0 ++ maskP Ns 0 fun j => (dp.getD k []).contains j).length ∧ ∀ K' : Value → Mem → Prop, K' v M' → awOp P true (M0 ++ maskP Ns 0 fun j => (dp.getD k []).contains j).length o ⟨n, T k, M0 ++ maskP Ns 0 fun j => (dp.getD k []).contains j⟩ K') (v = undef ∧ N = [])) →
        ∃ T' vs' Ns', Outs P ops dp n M0 m T' vs' Ns' ∧ T' 0 = T 0 ∧ Q ⟨n, T' m, M0 ++ Ns'.flatten⟩ := by
      intro v N hD hG
      have hO' : Outs P ops dp n M0 (k + 1) (fun i => if i = k + 1 then (St.put ⟨n, T k, M0⟩ o.dst v).T else T i) (fun i => if i = k then v else vs i) (Ns ++ [N]) := by
        refine ⟨by simp [hO.len], fun i o' hi ho' => ?_, fun i o' hi ho' => ?_⟩
        · by_cases hik : i = k
          · subst hik
            rw [ho] at ho'
            injection ho' with ho'
            subst ho'
            simp
          · simp only [if_neg (show ¬ i + 1 = k + 1 by omega), if_neg (show ¬ i = k + 1 by omega), if_neg hik]
            exact hO.env i o' (by omega) ho'
        · have hlen := hO.len
          by_cases hik : i = k
          · subst hik
            rw [ho] at ho'
            injection ho' with ho'
            subst ho'
            simp only [if_neg (show ¬ i = i + 1 by omega), if_true]
            have ht : (Ns ++ [N]).take i = Ns := by rw [← hlen]; simp
            have hg : (Ns ++ [N])[i]? = some N := by rw [← hlen]; simp
            rw [ht, hg]
            exact awG_mono hG (fun ⟨M', e1, e2⟩ => ⟨M', by rw [e1], e2⟩) (fun ⟨e1, e2⟩ => ⟨e1, by rw [e2]⟩)
          · simp only [if_neg (show ¬ i = k + 1 by omega), if_neg hik]
            have ht : (Ns ++ [N]).take i = Ns.take i := by rw [List.take_append_of_le_length (by omega)]
            have hg : (Ns ++ [N])[i]? = Ns[i]? := List.getElem?_append_left (by omega)
            rw [ht, hg]
            exact hO.out i o' (by omega) ho'
      obtain ⟨T', vs', Ns', h1, h2, h3⟩ := ih (k + 1) m _ _ _ hos' (by omega) hO' (by simpa using hD)
      exact ⟨T', vs', Ns', h1, by rw [h2]; exact if_neg (by omega), h3⟩
    rcases awG_cases h with ⟨hA, hG⟩ | ⟨hB, hG⟩
    · obtain ⟨v, M', h1, h2⟩ := awOp_pt o _ hA
      refine next v _ h1 ?_
      have := hG (v = undef ∧ M'.drop (M0 ++ maskP Ns 0 fun j => (dp.getD k []).contains j).length = [])
      exact awG_mono this (fun _ => ⟨M', rfl, h2⟩) id
    · refine next undef [] hB ?_
      exact awG_mono (hG False) (fun h => h.elim) (fun _ => ⟨rfl, rfl⟩)
end Go.Proofs.YtbpaeonfebmomaaDoor

namespace Go.Proofs.YtbpaeonfebmomaaDoor
open Go.RowKit
set_option linter.unusedVariables false
set_option linter.unusedSimpArgs false

theorem maskP_part {p : Nat → Bool} : ∀ (Ns : List (List Slot)) (j0 : Nat) (L : List Slot) (i : Nat) (s : Slot), (L ++ maskP Ns j0 p)[i]? = some s → s.known = true →
    L[i]? = some s ∨ ∃ j off, j < Ns.length ∧ p (j0 + j) = true ∧ i = L.length + (maskP (Ns.take j) j0 p).length + off ∧ (Ns.getD j [])[off]? = some s
  | [], _, L, i, s, h, _ => by simp [maskP] at h; exact .inl h
  | s0 :: ss, j0, L, i, s, h, hk => by
    simp only [maskP] at h
    rw [← List.append_assoc] at h
    rcases maskP_part ss (j0 + 1) _ i s h hk with h1 | ⟨j, off, h1, h2, h3, h4⟩
    · by_cases hi : i < L.length
      · rw [List.getElem?_append_left hi] at h1; exact .inl h1
      · rw [List.getElem?_append_right (by omega)] at h1
        by_cases hp : p j0 = true
        · rw [if_pos hp] at h1
          exact .inr ⟨0, i - L.length, by simp, hp, by simp [maskP]; omega, by simpa using h1⟩
        · rw [if_neg hp] at h1
          rw [holes_get h1] at hk
          cases hk
    · refine .inr ⟨j + 1, off, by simpa using h1, by rwa [show j0 + (j + 1) = j0 + 1 + j by omega], ?_, by simpa using h4⟩
      rw [h3]
      simp only [List.take_succ_cons, maskP, List.length_append]
      omega

section
variable {P : Program} {ops : Array Oper} {dp : List (List Nat)} {n m b : Nat} {M0 : Mem} {μ0 : Map} {w0 : World} {T : Nat → List (Nat × Value)} {vs : Nat → Value} {Ns : List (List Slot)}
def MK (M0 : Mem) (dp : List (List Nat)) (Ns : List (List Slot)) (k : Nat) : Mem := M0 ++ maskP (Ns.take k) 0 fun j => (dp.getD k []).contains j
def ME (M0 : Mem) (dp : List (List Nat)) (Ns : List (List Slot)) (k : Nat) : Mem := MK M0 dp Ns k ++ Ns.getD k []
def MA (M0 : Mem) (Ns : List (List Slot)) (X : Nat → Bool) : Mem := M0 ++ maskP Ns 0 X
structure Inv (ops : Array Oper) (dp : List (List Nat)) (n m b : Nat) (M0 : Mem) (μ0 : Map) (w0 : World) (T : Nat → List (Nat × Value)) (vs : Nat → Value) (Ns : List (List Slot)) (X : Nat → Bool) (μ : Map) (a : Act) (w : World) : Prop where
  sim : Sim (MA M0 Ns X) μ w
  step : Step b M0 μ0 w0 (MA M0 Ns X) μ w
  sim0 : Sim M0 μ w
  simj : ∀ j, j < m → X j = true → Sim (ME M0 dp Ns j) μ w
  size : a.tmps.size = n
  defers : a.defers = []
  e0 : ∀ t v, look (T 0) t = some v → t < n → (∀ j, j < m → dstOf ops j ≠ some t) → ∃ c, a.tmps[t]? = some c ∧ VRel M0 μ v c
  e1 : ∀ j t, j < m → X j = true → dstOf ops j = some t → t < n → ∃ c, a.tmps[t]? = some c ∧ VRel (ME M0 dp Ns j) μ (vs j) c

theorem split_at {k : Nat} (hk : k < Ns.length) : Ns = Ns.take k ++ (Ns.getD k [] :: Ns.drop (k + 1)) := by
  have : Ns.drop k = Ns.getD k [] :: Ns.drop (k + 1) := by
    rw [List.drop_eq_getElem_cons hk]
    simp [List.getElem?_eq_getElem hk]
  rw [← this, List.take_append_drop]
theorem MA_split {k : Nat} (hk : k < Ns.length) (X : Nat → Bool) : MA M0 Ns X = (M0 ++ maskP (Ns.take k) 0 X) ++ ((if X k = true then Ns.getD k [] else holes (Ns.getD k [])) ++ maskP (Ns.drop (k + 1)) (k + 1) X) := by
  unfold MA
  have h : maskP Ns 0 X = maskP (Ns.take k ++ (Ns.getD k [] :: Ns.drop (k + 1))) 0 X := congrArg (fun l => maskP l 0 X) (split_at hk)
  rw [h, maskP_append]
  simp only [maskP, List.length_take, Nat.zero_add]
  rw [show min k Ns.length = k by omega, List.append_assoc]
theorem MK_sub {k : Nat} (hk : k < Ns.length) {X : Nat → Bool} (hX : ∀ j, (dp.getD k []).contains j = true → X j = true) : Sub (MK M0 dp Ns k) (M0 ++ maskP (Ns.take k) 0 X) :=
  .append rfl (.refl _) (maskP_sub _ _ fun i _ _ h => hX i h)
theorem ME_sub (hO : DrawOk ops m dp) {k j : Nat} (hk : k < m) (hm : Ns.length = m) (hko : k < ops.size) (hj : (dp.getD k []).contains j = true) : Sub (ME M0 dp Ns j) (MK M0 dp Ns k) := by
  obtain ⟨o, ho⟩ : ∃ o, ops[k]? = some o := ⟨_, Array.getElem?_eq_getElem hko⟩
  have hjk := (hO.dep k o ho j hj).1
  have hs : Ns.take k = Ns.take j ++ (Ns.getD j [] :: (Ns.take k).drop (j + 1)) := by
    have h := split_at (Ns := Ns.take k) (k := j) (by simp; omega)
    rw [List.take_take, show min j k = j by omega] at h
    have e : (Ns.take k).getD j [] = Ns.getD j [] := by simp [List.getElem?_take, hjk]
    rwa [e] at h
  unfold ME MK
  rw [hs, maskP_append]
  simp only [maskP, List.length_take, Nat.zero_add]
  rw [show min j Ns.length = j by omega, if_pos hj, ← List.append_assoc M0]
  refine .append ?_ (.append rfl (.refl _) (maskP_sub _ _ fun i _ _ h => hO.trans k hk j hj i h)) ((Sub.refl _).left _)
  simp only [List.length_append]
  rw [maskP_len]
theorem ME_subA {j : Nat} (hj : j < Ns.length) {X : Nat → Bool} (hX : X j = true) (hd : ∀ i, (dp.getD j []).contains i = true → X i = true) : Sub (ME M0 dp Ns j) (MA M0 Ns X) := by
  rw [MA_split hj, if_pos hX]
  refine .append ?_ (MK_sub hj hd) ((Sub.refl _).left _)
  unfold MK
  simp only [List.length_append]
  rw [maskP_len]
theorem sub0 {A : Mem} : Sub M0 (M0 ++ A) := (Sub.refl _).left _

theorem look_T (hO : DrawOk ops m dp) (hU : Outs P ops dp n M0 m T vs Ns) : ∀ k, k ≤ m → (∀ j t, j < k → dstOf ops j = some t → look (T k) t = some (vs j)) ∧ ∀ t, (∀ j, j < k → dstOf ops j ≠ some t) → look (T k) t = look (T 0) t := by
  intro k
  induction k with
  | zero => exact fun _ => ⟨fun j t hj => by omega, fun _ _ => rfl⟩
  | succ k ih =>
    intro hk
    obtain ⟨h1, h2⟩ := ih (by omega)
    obtain ⟨o, ho⟩ : ∃ o, ops[k]? = some o := ⟨_, Array.getElem?_eq_getElem (by have := hO.le; omega)⟩
    have he := hU.env k o (by omega) ho
    have hd : dstOf ops k = o.dst := by simp [dstOf, ho]
    rw [he]
    cases hdst : o.dst with
    | none =>
      rw [hdst] at hd
      simp only [St.put]
      refine ⟨fun j t hj hjt => ?_, fun t ht => h2 t fun j hj => ht j (by omega)⟩
      by_cases hjk : j = k
      · subst hjk; rw [hd] at hjt; cases hjt
      · exact h1 j t (by omega) hjt
    | some d =>
      rw [hdst] at hd
      simp only [St.put, look]
      refine ⟨fun j t hj hjt => ?_, fun t ht => ?_⟩
      · by_cases hjk : j = k
        · subst hjk
          rw [hd] at hjt
          injection hjt with hjt
          rw [if_pos hjt.symm]
        · have hne : t ≠ d := fun e => hO.apart k d j (by omega) hd (by omega) (by rw [hjt, e])
          rw [if_neg hne]
          exact h1 j t (by omega) hjt
      · have hne : t ≠ d := fun e => ht k (by omega) (by rw [hd, e])
        rw [if_neg hne]
        exact h2 t fun j hj => ht j (by omega)

/-- The environment of a stable operation, where all on which it hangs has been done. -/
theorem Inv.simK (hO : DrawOk ops m dp) (hU : Outs P ops dp n M0 m T vs Ns) {X : Nat → Bool} {μ : Map} {a : Act} {w : World} (h : Inv ops dp n m b M0 μ0 w0 T vs Ns X μ a w) {k : Nat} (hk : k < m) (hd : ∀ j, (dp.getD k []).contains j = true → X j = true) : Sim (MK M0 dp Ns k) μ w := by
  have hlen := hU.len
  have hko : k < ops.size := by have := hO.le; omega
  have hsub : Sub (MK M0 dp Ns k) (MA M0 Ns X) := by rw [MA_split (k := k) (by omega)]; exact (MK_sub (k := k) (by omega) hd).left _
  refine ⟨fun id r hr => ?_, fun i j r s hi hj hne ho => h.sim.inj i j r s (hsub i _ hi rfl) (hsub j _ hj rfl) hne ho, fun hon => ⟨(h.sim.glob hon).1, (h.sim.glob hon).2.1, fun i r hi ho => (h.sim.glob hon).2.2 i r (hsub i _ hi rfl) ho⟩⟩
  rcases maskP_part _ _ _ _ _ hr rfl with h1 | ⟨j, off, h1, h2, h3, h4⟩
  · exact (h.sim0.row id r h1).sub sub0
  · rw [Nat.zero_add] at h2
    obtain ⟨o, ho⟩ : ∃ o, ops[k]? = some o := ⟨_, Array.getElem?_eq_getElem hko⟩
    have hjk := (hO.dep k o ho j h2).1
    have hrow : (ME M0 dp Ns j)[id]? = some (.live r) := by
      unfold ME MK
      have hl : (M0 ++ maskP (Ns.take j) 0 fun i => (dp.getD j []).contains i).length = M0.length + (maskP ((Ns.take k).take j) 0 fun i => (dp.getD k []).contains i).length := by
        rw [List.length_append, List.take_take, show min j k = j by omega, maskP_len]
      rw [List.getElem?_append_right (by omega), hl, h3]
      have e : (Ns.take k).getD j [] = Ns.getD j [] := by simp [List.getElem?_take, hjk]
      rw [e] at h4
      rw [show M0.length + (maskP ((Ns.take k).take j) 0 fun i => (dp.getD k []).contains i).length + off - (M0.length + (maskP ((Ns.take k).take j) 0 fun i => (dp.getD k []).contains i).length) = off by omega]
      exact h4
    exact ((h.simj j (by omega) (hd j h2)).row id r hrow).sub (ME_sub hO hk hlen hko h2)
def keepK (ops : Array Oper) (dp : List (List Nat)) (m k : Nat) (t : Nat) : Bool := (dp.getD k []).any (fun j => dstOf ops j == some t) || (List.range m).all fun j => dstOf ops j != some t
theorem Inv.envK (hO : DrawOk ops m dp) (hU : Outs P ops dp n M0 m T vs Ns) {X : Nat → Bool} {μ : Map} {a : Act} {w : World} (h : Inv ops dp n m b M0 μ0 w0 T vs Ns X μ a w) {k : Nat} (hk : k < m) (hd : ∀ j, (dp.getD k []).contains j = true → X j = true) :
    Env ⟨n, (T k).filter fun e => keepK ops dp m k e.1, MK M0 dp Ns k⟩ μ a := by
  have hlen := hU.len
  have hko : k < ops.size := by have := hO.le; omega
  obtain ⟨o, ho⟩ : ∃ o, ops[k]? = some o := ⟨_, Array.getElem?_eq_getElem hko⟩
  obtain ⟨l1, l2⟩ := look_T hO hU k (by omega)
  refine ⟨h.size, fun t v hv ht => ?_, h.defers⟩
  simp only at hv ht
  rw [look_filter] at hv
  split at hv
  · rename_i hkeep
    unfold keepK at hkeep
    rw [Bool.or_eq_true] at hkeep
    rcases hkeep with hk1 | hk1
    · rw [List.any_eq_true] at hk1
      obtain ⟨j, hj, hjt⟩ := hk1
      have hjt : dstOf ops j = some t := by simpa using hjt
      have hjc : (dp.getD k []).contains j = true := by simpa using hj
      have hjk := (hO.dep k o ho j hjc).1
      rw [l1 j t hjk hjt] at hv
      injection hv with hv
      subst hv
      obtain ⟨c, h1, h2⟩ := h.e1 j t (by omega) (hd j hjc) hjt ht
      exact ⟨c, h1, h2.sub (ME_sub hO hk hlen hko hjc)⟩
    · rw [List.all_eq_true] at hk1
      have hall : ∀ j, j < m → dstOf ops j ≠ some t := fun j hj => by have := hk1 j (List.mem_range.2 hj); simpa using this
      rw [l2 t fun j hj => hall j (by omega)] at hv
      obtain ⟨c, h1, h2⟩ := h.e0 t v hv ht hall
      exact ⟨c, h1, h2.sub sub0⟩
  · cases hv
end
end Go.Proofs.YtbpaeonfebmomaaDoor
