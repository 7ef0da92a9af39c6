/- Code over abstract states: contracts, the weakest precondition and its soundness (but for regions that draw their order). No conditions. -/
import Derived.Test.YtffbocbjmhkikaaAw8
namespace Go.Proofs.Ytffbocbjmhkikaa
open Go.RowKit
set_option linter.unusedVariables false
set_option linter.unusedSimpArgs false

/-- A contract: called with args in M, the function returns v and leaves M'; ids below b are not touched. -/
structure Det (P : Program) (b : Nat) (f : FuncId) (args : List Value) (M : Mem) (v : Value) (M' : Mem) : Prop where
  fn : ∃ fn, P.funcs[f]? = some fn ∧ (fn.name == "runtime.NumGoroutine") = false ∧ fn.body.isNone = false
  run : ∀ μ w cs, LRel M μ args cs → Sim M μ w → Calls P f cs.toArray w (fun e w' => ∃ c μ', e = .returned c ∧ VRel M' μ' v c ∧ Sim M' μ' w' ∧ Step b M μ w M' μ' w')
/-- A contract that tells what holds of the outcome. -/
structure Ctr (P : Program) (b : Nat) (f : FuncId) (args : List Value) (M : Mem) (K : Value → Mem → Prop) : Prop where
  fn : ∃ fn, P.funcs[f]? = some fn ∧ (fn.name == "runtime.NumGoroutine") = false ∧ fn.body.isNone = false
  run : ∀ μ w cs, LRel M μ args cs → Sim M μ w → Calls P f cs.toArray w (fun e w' => ∃ v M' c μ', K v M' ∧ e = .returned c ∧ VRel M' μ' v c ∧ Sim M' μ' w' ∧ Step b M μ w M' μ' w')
theorem Ctr.mono {P : Program} {b : Nat} {f : FuncId} {args : List Value} {M : Mem} {K K' : Value → Mem → Prop} (h : Ctr P b f args M K) (hK : ∀ v M', K v M' → K' v M') : Ctr P b f args M K' :=
  ⟨h.fn, fun μ w cs hl hS => (h.run μ w cs hl hS).mono fun e w' ⟨v, M', c, μ', k, r⟩ => ⟨v, M', c, μ', hK _ _ k, r⟩⟩
theorem Det.ctr {P : Program} {b : Nat} {f : FuncId} {args : List Value} {M M' : Mem} {v : Value} {K : Value → Mem → Prop} (h : Det P b f args M v M') (hK : K v M') : Ctr P b f args M K :=
  ⟨h.fn, fun μ w cs hl hS => (h.run μ w cs hl hS).mono fun e w' ⟨c, μ', r⟩ => ⟨v, M', c, μ', hK, r⟩⟩
theorem Ctr.weaken {P : Program} {b b' : Nat} {f : FuncId} {args : List Value} {M : Mem} {K : Value → Mem → Prop} (h : Ctr P b f args M K) (hb : b' ≤ b) : Ctr P b' f args M K :=
  ⟨h.fn, fun μ w cs hl hS => (h.run μ w cs hl hS).mono fun e w' ⟨v, M', c, μ', k, he, hv, h1, h2⟩ => ⟨v, M', c, μ', k, he, hv, h1, h2.weaken hb⟩⟩
theorem Det.weaken {P : Program} {b b' : Nat} {f : FuncId} {args : List Value} {M M' : Mem} {v : Value} (h : Det P b f args M v M') (hb : b' ≤ b) : Det P b' f args M v M' :=
  ⟨h.fn, fun μ w cs hl hS => (h.run μ w cs hl hS).mono fun e w' ⟨c, μ', he, hv, h1, h2⟩ => ⟨c, μ', he, hv, h1, h2.weaken hb⟩⟩

inductive Ex where
  | normal
  | exit (id : Nat)
  | ret
def Ex.toExit : Ex → Exit
  | .normal => .normal
  | .exit id => .exit id
  | .ret => .ret
def exThen (next : St → Prop) (Q : Ex → St → Prop) : Ex → St → Prop
  | .normal, S => next S
  | e, S => Q e S
def exBlock (id : Nat) (Q : Ex → St → Prop) : Ex → St → Prop
  | .exit i, S => if i = id then Q .normal S else Q (.exit i) S
  | e, S => Q e S
@[simp] theorem exThen_normal (next : St → Prop) (Q : Ex → St → Prop) (S : St) : exThen next Q .normal S = next S := (rfl)
@[simp] theorem exThen_exit (next : St → Prop) (Q : Ex → St → Prop) (S : St) (i : Nat) : exThen next Q (.exit i) S = Q (.exit i) S := (rfl)
@[simp] theorem exThen_ret (next : St → Prop) (Q : Ex → St → Prop) (S : St) : exThen next Q .ret S = Q .ret S := (rfl)
@[simp] theorem exBlock_normal (id : Nat) (Q : Ex → St → Prop) (S : St) : exBlock id Q .normal S = Q .normal S := (rfl)
@[simp] theorem exBlock_exit (id : Nat) (Q : Ex → St → Prop) (S : St) (i : Nat) : exBlock id Q (.exit i) S = if i = id then Q .normal S else Q (.exit i) S := (rfl)
@[simp] theorem exBlock_ret (id : Nat) (Q : Ex → St → Prop) (S : St) : exBlock id Q .ret S = Q .ret S := (rfl)

/-- What is shown of the model's code. -/
def AQ (b : Nat) (Q : Ex → St → Prop) (M : Mem) (μ : Map) (w : World) : Exit → Act → World → Prop :=
  fun e a' w' => ∃ x S' μ', e = Ex.toExit x ∧ Q x S' ∧ Env S' μ' a' ∧ Sim S'.M μ' w' ∧ Step b M μ w S'.M μ' w'
def AW (P : Program) (b : Nat) (c : Code) (Q : Ex → St → Prop) (S : St) : Prop := ∀ μ a w, Env S μ a → Sim S.M μ w → c.wp P (AQ b Q S.M μ w) a w

/-- A call; d: its outcome must be told. -/
def awCall (P : Program) (d : Bool) (b : Nat) (g : FuncId) (args : List Value) (M : Mem) (K : Value → Mem → Prop) (_ : Tk K := tk) : Prop := (∃ v M', Det P b g args M v M' ∧ K v M') ∨ (d = false ∧ Ctr P b g args M K)
theorem awCall_det {P : Program} {d : Bool} {b : Nat} {g : FuncId} {args : List Value} {M : Mem} {K : Value → Mem → Prop} {v : Value} {M' : Mem} (h : Det P b g args M v M') (hK : K v M') : awCall P d b g args M K := .inl ⟨v, M', h, hK⟩
theorem awCall_ctr {P : Program} {b : Nat} {g : FuncId} {args : List Value} {M : Mem} {K K' : Value → Mem → Prop} (h : Ctr P b g args M K') (hK : ∀ v M', K' v M' → K v M') : awCall P false b g args M K := .inr ⟨rfl, h.mono hK⟩
theorem awCall_run {P : Program} {d : Bool} {b : Nat} {g : FuncId} {args : List Value} {M : Mem} {K : Value → Mem → Prop} (h : awCall P d b g args M K) : Ctr P b g args M K := by
  rcases h with ⟨v, M', h, hK⟩ | ⟨-, h⟩
  · exact h.ctr hK
  · exact h
def callV (P : Program) (d : Bool) (b : Nat) (S : St) (K : Value → Mem → Prop) (f : Value) (as : List Value) : Prop :=
  match f with
  | .func (.func g) us vs => awCall P d b g (us.toList ++ as ++ vs.toList) S.M K
  | _ => False
/-- One operation. -/
noncomputable def awOp (P : Program) (d : Bool) (b : Nat) (o : Oper) (S : St) (K : Value → Mem → Prop) : Prop :=
  match o.op with
  | .move x => ow (S.ev x) fun v => K v S.M
  | .assign x => ow (S.ev x) fun v => K v S.M
  | .pick c x y => ow (S.ev c) fun cv => ow (S.ev x) fun u => ow (S.ev y) fun v => match cv with | .bool t => K (if t = true then u else v) S.M | _ => False
  | .alloc t => ow (qZero P t) fun cs => K (.pointer (some ⟨S.M.length, 0, none⟩)) (S.M ++ [.live ⟨cs, true, true, t, cs.length⟩])
  | .box t x => ow (S.ev x) fun v => K (.pointer (some ⟨S.M.length, 0, none⟩)) (S.M ++ [.live ⟨v.cells.toList, true, true, t, v.cells.size⟩])
  | .build t ps => ow (partsV S ps.toList) fun vs => ow (qBuild P t) fun q => ow (Instr.fill (q.2[·]?) q.1 vs) fun cs => K (.agg cs) S.M
  | .buildSlice t n ps => ow (partsV S ps.toList) fun vs => ow (qSlice P t) fun q => ow (qZero P q.1) fun z => (z.length = q.2.1 ∧ n * q.2.1 ≤ 16777216) ∧ ow (Instr.fill (fun i => some (i * q.2.1, q.2.1)) (zrow z n).toArray vs) fun cs =>
      K (.slice (some ⟨S.M.length, 0, none⟩) n n) (S.M ++ [.live ⟨cs.toList, true, true, q.1, q.2.1⟩])
  | .load t x => ow (S.ev x) (loadK P S t K)
  | .store t x y => ow (S.ev x) fun p => ow (S.ev y) fun v => storeK P b S t K p v
  | .nilCheck x => ow (S.ev x) fun u => match u with | .pointer (some ⟨id, off, none⟩) => K (.pointer (some ⟨id, off, none⟩)) S.M | .func (.func f) us vs => K (.func (.func f) us vs) S.M | _ => False
  | .binOp op t x y _ => ow (S.ev x) fun u => ow (S.ev y) fun v => ow (binV P op t u v) fun r => K r S.M
  | .unOp op _ x => ow (S.ev x) fun u => ow (unV op u) fun r => K r S.M
  | .convert src dst x => ow (S.ev x) fun u => match u with
    | .slice q n c => b2sK P S K src dst (.slice q n c)
    | .string s => s2K P S K src dst s
    | u => ow (convV P src dst u) fun r => K r S.M
  | .makeFunc fn first captured => ow (evs S first.toList) fun us => ow (evs S captured.toList) fun vs => K (.func fn us.toArray vs.toArray) S.M
  | .makeSlice t x y => ow (S.ev x) fun u => ow (S.ev y) fun v => makeK P S K t u v
  | .slice t x lo hi none => ow (S.ev x) fun u => ow (evo S lo) fun l => ow (evo S hi) fun h => sliceK P S K t u l h
  | .fieldAddr t x f => ow (S.ev x) fun u => ow (qField P t f) fun q => fieldAddrK S K q.1 u
  | .field t x f => ow (S.ev x) fun u => ow (qField P t f) fun q => ow (fieldV u q) fun v => K v S.M
  | .indexAddr t x y => ow (S.ev x) fun u => ow (S.ev y) fun i => ow (qSlice P t) fun q => indexAddrK S K q.2.1 u i
  | .index t x y => P.underlying t = some .string ∧ ow (S.ev x) fun u => ow (S.ev y) fun i => indexK S K u i
  | .extract x i => ow (S.ev x) fun u => ow (tupAt u i) fun v => K v S.M
  | .call c => match c.callee, c.args.toList, c.argTypes.toList with
    | .value f, as, _ => ow (S.ev f) fun fv => ow (evs S as) fun vs => callV P d b S K fv vs
    | .builtin .len, [x], [t] => ow (S.ev x) fun u => lenK P S K t u
    | .builtin .append, [s, x], [t, tx] => ow (S.ev s) fun u => ow (S.ev x) fun v => appendK P b S K t tx u v
    | .builtin .min, [x, y], _ => ow (S.ev x) fun u => ow (S.ev y) fun v => ow (minV u v) fun r => K r S.M
    | .builtin .max, [x, y], _ => ow (S.ev x) fun u => ow (S.ev y) fun v => ow (maxV u v) fun r => K r S.M
    | _, _, _ => False
  | _ => False
def isCall (o : Oper) : Bool :=
  match o.op with
  | .call { callee := .value _, .. } => true
  | _ => false
theorem toArray_eq {α : Type} {a : Array α} {l : List α} (h : a.toList = l) : a = l.toArray := by rw [← h]

section
variable {P : Program} {d : Bool} {b : Nat} {o : Oper} {S : St} {K : Value → Mem → Prop}
theorem awOp_run (hc : isCall o = false) (h : awOp P d b o S K) : OpRun P b o S K := by
  unfold awOp at h
  split at h
  case h_22 =>
    rename_i c hop
    split at h
    · exfalso
      obtain ⟨ce, ar, at_⟩ := c
      cases ce <;> simp_all [isCall]
    · rename_i h1 h2 h3
      exact or_len hop h1 (toArray_eq h2) (toArray_eq h3) h
    · rename_i h1 h2 h3
      exact or_append hop h1 (toArray_eq h2) (toArray_eq h3) h
    · rename_i h1 h2
      exact or_min2 hop h1 (toArray_eq h2) h
    · rename_i h1 h2
      exact or_max2 hop h1 (toArray_eq h2) h
    · exact h.elim
  all_goals first
    | exact h.elim
    | exact or_move (.inl (by assumption)) h
    | exact or_move (.inr (by assumption)) h
    | exact or_pick (by assumption) h
    | exact or_alloc (by assumption) h
    | exact or_box (by assumption) h
    | exact or_build (by assumption) h
    | exact or_buildSlice (by assumption) h
    | exact or_load (by assumption) h
    | exact or_store (by assumption) h
    | exact or_nilCheck (by assumption) h
    | exact or_bin (by assumption) h
    | exact or_un (by assumption) h
    | exact or_func (by assumption) h
    | exact or_make (by assumption) h
    | exact or_slice (by assumption) h
    | exact or_fieldAddr (by assumption) h
    | exact or_field (by assumption) h
    | exact or_indexAddr (by assumption) h
    | exact or_index (by assumption) h
    | exact or_extract (by assumption) h
    | skip
  rename_i src dst x hop
  obtain ⟨u, hu, h'⟩ := ow_iff.1 h
  split at h'
  · exact or_b2s hop (ow_iff.2 ⟨_, hu, h'⟩)
  · exact or_s2 hop hu h'
  · exact or_conv hop (ow_iff.2 ⟨_, hu, h'⟩)

/-- The operation, where it is no call: what the model's wp says. -/
theorem OpRun.wp (h : OpRun P b o S K) {μ : Map} {a : Act} {w : World} (hE : Env S μ a) (hS : Sim S.M μ w) {next : Act → World → Prop} {Q : Exit → Act → World → Prop}
    (hn : ∀ v M' c μ' w', K v M' → VRel M' μ' v c → Sim M' μ' w' → Step b S.M μ w M' μ' w' → next (a.put o.dst c) w') : o.wp P a w next Q := by
  obtain ⟨nx, w', v, c, M', μ', hr, hnx, hK, hv, h1, h2⟩ := h μ a w hE hS
  unfold Oper.wp
  rw [hr]
  rcases hnx with rfl | ⟨rfl, rfl⟩
  · exact hn v M' _ μ' w' hK hv h1 h2
  · exact hn v M' _ μ' w' hK hv h1 h2
theorem callV_inv {f : Value} {as : List Value} (h : callV P d b S K f as) : ∃ g us vs, f = .func (.func g) us vs ∧ Ctr P b g (us.toList ++ as ++ vs.toList) S.M K := by
  unfold callV at h
  split at h
  · exact ⟨_, _, _, rfl, awCall_run h⟩
  · exact h.elim
theorem awOp_wp (h : awOp P d b o S K) {μ : Map} {a : Act} {w : World} (hE : Env S μ a) (hS : Sim S.M μ w) {next : Act → World → Prop} {Q : Exit → Act → World → Prop}
    (hn : ∀ v M' c μ' w', K v M' → VRel M' μ' v c → Sim M' μ' w' → Step b S.M μ w M' μ' w' → next (a.put o.dst c) w') : o.wp P a w next Q := by
  cases hc : isCall o with
  | false => exact (awOp_run hc h).wp hE hS hn
  | true =>
    unfold isCall at hc
    split at hc
    · rename_i fo as ats hop
      unfold awOp at h
      simp only [hop] at h
      obtain ⟨fv, hf, h'⟩ := ow_iff.1 h
      obtain ⟨vs, hvs, h''⟩ := ow_iff.1 h'
      obtain ⟨g, us, cs, rfl, hd⟩ := callV_inv h''
      have rf := hE.ev hf
      have ra := hE.evs hvs
      obtain ⟨fn, hfn, hname, hbody⟩ := hd.fn
      generalize hce : a.eval fo = cf at rf
      cases rf with
      | plain hp => simp [plainV] at hp
      | @fn _ _ ys _ zs e1 r1 e2 r2 =>
        have hl : LRel S.M μ (us.toList ++ vs ++ cs.toList) (ys.toList ++ as.toList.map a.eval ++ zs.toList) :=
          LRel.append (LRel.append ⟨by simpa using e1, fun i x y hx hy => r1 i x y (by simpa using hx) (by simpa using hy)⟩ ra) ⟨by simpa using e2, fun i x y hx hy => r2 i x y (by simpa using hx) (by simpa using hy)⟩
        have hrun := hd.run μ w _ hl hS
        have hx : (execOp a.eval o).run P w = .ok (.enter g (ys ++ as.map a.eval ++ zs)) w := by
          have hname' : ¬ fn.name = "runtime.NumGoroutine" := by simpa using hname
          have hbody' : ¬ fn.body = none := by intro h; rw [h] at hbody; cases hbody
          simp [execOp, hop, resolve, hce, Deferred.ofValue, invoke, callFunc, Go.program, Sem.run, hfn, hname', hbody']
        unfold Oper.wp
        rw [hx]
        have harr : (ys ++ as.map a.eval ++ zs) = (ys.toList ++ as.toList.map a.eval ++ zs.toList).toArray := by apply Array.ext'; simp
        simp only [Oper.upon]
        rw [harr]
        refine hrun.mono ?_
        rintro e w' ⟨v, M', c, μ', hK, rfl, hv, h1, h2⟩
        exact hn v M' _ μ' w' hK hv h1 h2
    · cases hc

/-- Operations one after the other; the rest of them is a list of numbers. -/
noncomputable def awOps (P : Program) (b : Nat) (ops : Array Oper) (Q : St → Prop) : List Oper → St → Prop
  | [], S => Q S
  | o :: os, S =>
    match o.guard with
    | none => awOp P false b o S fun v M' => awOps P b ops Q os (St.put { S with M := M' } o.dst v)
    | some (j, want) => ow (((ops[j]?).bind (·.dst)).bind S.get) fun g => match g with
      | .bool y => (y = want → awOp P false b o S fun v M' => awOps P b ops Q os (St.put { S with M := M' } o.dst v)) ∧ (y = !want → awOps P b ops Q os (S.put o.dst undef))
      | .tuple _ => awOps P b ops Q os (S.put o.dst undef)
      | _ => False
theorem get_rel {μ : Map} {a : Act} (hE : Env S μ a) {t : Nat} {v : Value} (h : S.get t = some v) : ∃ c, a.tmps[t]? = some c ∧ VRel S.M μ v c := by
  unfold St.get at h
  split at h
  · exact hE.val t v h (by assumption)
  · cases h
theorem awOps_wp {ops : Array Oper} {Q : St → Prop} : ∀ (l : List Nat) (os : List Oper) (S : St), l.map (ops[·]?) = os.map some → awOps P b ops Q os S → ∀ μ a w, Env S μ a → Sim S.M μ w → ∀ (R : Exit → Act → World → Prop),
    (∀ S' μ' a' w', Q S' → Env S' μ' a' → Sim S'.M μ' w' → Step b S.M μ w S'.M μ' w' → R .normal a' w') → wpOps P ops R l a w := by
  intro l
  induction l with
  | nil =>
    intro os S hl h μ a w hE hS R hR
    have : os = [] := by cases os <;> simp_all
    subst this
    exact hR S μ a w h hE hS .refl
  | cons i l ih =>
    intro os S hl h μ a w hE hS R hR
    match os, hl with
    | [], hl => cases hl
    | o :: os, hl =>
      simp only [List.map_cons, List.cons.injEq] at hl
      obtain ⟨ho, hl⟩ := hl
      simp only [wpOps, ho]
      have go : (awOp P false b o S fun v M' => awOps P b ops Q os (St.put { S with M := M' } o.dst v)) → o.wp P a w (wpOps P ops R l) R := fun h' =>
        awOp_wp h' hE hS fun v M' c μ' w' hK hv hS' hst => ih os _ hl hK μ' _ w' (hE.put hst hv o.dst) (by cases o.dst <;> exact hS') R
          fun S'' μ'' a'' w'' q1 q2 q3 q4 => hR S'' μ'' a'' w'' q1 q2 q3 (hst.trans (by cases hd : o.dst <;> rw [hd] at q4 <;> exact q4))
      have skip : awOps P b ops Q os (S.put o.dst undef) → wpOps P ops R l (a.put o.dst undef) w := fun h' => by
        have hE' := hE.put (b := b) (M' := S.M) (μ' := μ) (w := w) (w' := w) .refl (v := undef) (c := undef) (.tup rfl (fun i x y h => by simp at h)) o.dst
        exact ih os _ hl h' μ _ w hE' (by cases o.dst <;> exact hS) R fun S'' μ'' a'' w'' q1 q2 q3 q4 => hR S'' μ'' a'' w'' q1 q2 q3 (by cases hd : o.dst <;> rw [hd] at q4 <;> exact q4)
      simp only [awOps] at h
      cases hg : o.guard with
      | none =>
        rw [hg] at h
        rw [if_pos (by simp [Region.wanted, hg])]
        exact .inl (go h)
      | some jw =>
        obtain ⟨j, want⟩ := jw
        rw [hg] at h
        obtain ⟨g, hg1, h⟩ := ow_iff.1 h
        obtain ⟨t, ht, hget⟩ := Option.bind_eq_some_iff.1 hg1
        obtain ⟨c, hc1, hc2⟩ := get_rel hE hget
        have hy : yielded ops a.tmps j = match c with | .bool y => some y | _ => none := by
          unfold yielded
          rw [ht]
          simp only [Option.bind_some, hc1]
          cases c <;> rfl
        cases g <;> simp only at h <;> try exact h.elim
        · rename_i y
          have := hc2.bool
          subst this
          by_cases hyw : y = want
          · rw [if_pos (by simp [Region.wanted, hg, hy, hyw])]
            exact .inl (go (h.1 hyw))
          · rw [if_neg (by simp [Region.wanted, hg, hy, hyw])]
            exact skip (h.2 (by cases y <;> cases want <;> simp_all))
        · obtain ⟨ys, rfl, -⟩ := hc2.tup_inv
          rw [if_neg (by simp [Region.wanted, hg, hy])]
          exact skip h
theorem awOps_region {ops : Array Oper} {id : Nat} {Q : Ex → St → Prop} (h : awOps P b ops (Q .normal) ops.toList S) : AW P b (.region id ops false) Q S := by
  intro μ a w hE hS
  refine wp_region (awOps_wp (List.range ops.size) ops.toList S ?_ h μ a w hE hS _ fun S' μ' a' w' q1 q2 q3 q4 => ⟨.normal, S', μ', rfl, q1, q2, q3, q4⟩)
  apply List.ext_getElem?
  intro i
  simp only [List.getElem?_map]
  by_cases hi : i < ops.size
  · rw [List.getElem?_range hi]
    simp [hi]
  · rw [List.getElem?_eq_none (by simp; omega), List.getElem?_eq_none (by simp; omega)]
    rfl
end
end Go.Proofs.Ytffbocbjmhkikaa
