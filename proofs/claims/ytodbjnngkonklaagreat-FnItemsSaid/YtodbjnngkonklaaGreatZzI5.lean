/- Code and functions over abstract states: the weakest precondition, unfolded by simp. No conditions. -/
import Derived.Test.YtodbjnngkonklaaGreatZzI4
import Derived.Scope
namespace Go.Proofs.YtodbjnngkonklaaGreat
open Go.RowKit
set_option linter.unusedVariables false
set_option linter.unusedSimpArgs false

/-- A region that draws its order. -/
def awDraw (P : Program) (b : Nat) (ops : Array Oper) (Q : St → Prop) (S : St) (_ : Tk (ops, Q) := tk) : Prop :=
  (∃ m dp, P.follows .mixedOrders = true ∧ (drawOk ops m dp = true ∨ ∃ F, drawBase ops m dp = true ∧ drawLag ops m dp F = true) ∧ awD P ops dp S.n S.M (fun S' => awOps P b ops Q (ops.toList.drop m) S') (ops.toList.take m) 0 S.T []) ∨
  (P.follows .mixedOrders = true ∧ drawBackG ops = true ∧ ∃ I : (Nat → Bool) → St → Prop, I (fun _ => false) S ∧
    (∀ X S k o, I X S → ops[k]? = some o → X k = false → (∀ e ∈ o.after.toList, Region.binds .any e = true → X e.on = true) → awG ops o S (awOp P false b o S fun v M' => I (upX X k) (St.put { S with M := M' } o.dst v)) (I (upX X k) (S.put o.dst undef))) ∧
    ∀ X S, (∀ k, k < ops.size → X k = true) → I X S → Q S) ∨
  (P.follows .mixedOrders = true ∧ ∃ p q, permOk ops p q = true ∧ ∃ m dp, (drawOk (permOps ops p q) m dp = true ∨ ∃ F, drawBase (permOps ops p q) m dp = true ∧ drawLag (permOps ops p q) m dp F = true) ∧
    awD P (permOps ops p q) dp S.n S.M (fun S' => awOps P b (permOps ops p q) Q ((permOps ops p q).toList.drop m) S') ((permOps ops p q).toList.take m) 0 S.T [])
def awLoop (F : (Ex → St → Prop) → St → Prop) (Q : Ex → St → Prop) (S : St) (_ : Tk (F, Q) := tk) : Prop :=
  ∃ I : Nat → St → Prop, (∃ n, I n S) ∧ ∀ n S', I n S' → F (exThen (fun S'' => ∃ k, k < n ∧ I k S'') Q) S'
def awCond (v : Value) (A B : Prop) (_ : Tk (A, B) := tk) : Prop :=
  match v with
  | .bool t => (t = true → A) ∧ (t = false → B)
  | _ => False
noncomputable def aw (P : Program) (b : Nat) : Code → (Ex → St → Prop) → St → Prop
  | .skip, Q, S => Q .normal S
  | .region _ ops d, Q, S => if d = true then awDraw P b ops (Q .normal) S else awOps P b ops (Q .normal) ops.toList S
  | .seq x y, Q, S => aw P b x (exThen (aw P b y Q) Q) S
  | .cond c x y, Q, S => ow (S.ev c) fun v => awCond v (aw P b x Q S) (aw P b y Q S)
  | .block id c, Q, S => aw P b c (exBlock id Q) S
  | .loop c, Q, S => awLoop (aw P b c) Q S
  | .exit id, Q, S => Q (.exit id) S
  | .ret, Q, S => Q .ret S
  | .label _, Q, S => Q .normal S
  | .scope c, Q, S => aw P b c Q S
  | _, _, _ => False

section
variable {P : Program} {b : Nat} {Q : Ex → St → Prop} {S : St}
theorem aw_sound : ∀ (c : Code) (Q : Ex → St → Prop) (S : St), aw P b c Q S → AW P b c Q S
  | .skip, Q, S, h => fun μ a w hE hS => wp_skip ⟨.normal, S, μ, rfl, h, hE, hS, .refl⟩
  | .region id ops false, Q, S, h => awOps_region h
  | .region id ops true, Q, S, h => by
    rcases h with ⟨m, dp, h1, h2, h3⟩ | ⟨h1, h2, I, h3, h4, h5⟩ | ⟨h1, p, q, hp, m, dp, h2, h3⟩
    · rcases h2 with h2 | ⟨F, h2, h4⟩
      · exact awD_region h1 h2 h3
      · exact awD2_region h1 h2 h4 h3
    · exact inv_region h1 h2 I h3 h4 h5
    · refine perm_region hp (fun μ a w hE hS => ?_) h1
      have hsz := (permOk_spec hp).size
      rcases h2 with h2 | ⟨F, h2, h4⟩
      · have := awD_any (Q := Q) h2 h3 μ a w hE hS
        rwa [hsz] at this
      · have := awD2_any (Q := Q) h2 h4 h3 μ a w hE hS
        rwa [hsz] at this
  | .seq x y, Q, S, h => fun μ a w hE hS => by
    refine wp_seq (wp_mono (aw_sound x _ S h μ a w hE hS) ?_)
    rintro e a' w' ⟨ex, S', μ', rfl, hQ, hE', hS', hst⟩
    cases ex with
    | normal =>
      refine wp_mono (aw_sound y _ S' hQ μ' a' w' hE' hS') ?_
      rintro e a'' w'' ⟨ex, S'', μ'', rfl, hQ', hE'', hS'', hst'⟩
      exact ⟨ex, S'', μ'', rfl, hQ', hE'', hS'', hst.trans hst'⟩
    | exit id => exact ⟨.exit id, S', μ', rfl, hQ, hE', hS', hst⟩
    | ret => exact ⟨.ret, S', μ', rfl, hQ, hE', hS', hst⟩
  | .cond c x y, Q, S, h => fun μ a w hE hS => by
    obtain ⟨v, hv, h⟩ := ow_iff.1 h
    unfold awCond at h
    split at h
    · rename_i t
      have he := (hE.ev hv).bool
      exact wp_cond_split he (fun ht => aw_sound x Q S (h.1 ht) μ a w hE hS) (fun ht => aw_sound y Q S (h.2 ht) μ a w hE hS)
    · exact h.elim
  | .block id c, Q, S, h => fun μ a w hE hS => by
    refine wp_block (wp_mono (aw_sound c _ S h μ a w hE hS) ?_)
    rintro e a' w' ⟨ex, S', μ', rfl, hQ, hE', hS', hst⟩
    cases ex with
    | normal => exact ⟨.normal, S', μ', rfl, hQ, hE', hS', hst⟩
    | exit i =>
      simp only [exBlock_exit] at hQ
      simp only [Ex.toExit, Exit.inBlock]
      by_cases hi : i = id
      · rw [if_pos hi] at hQ ⊢
        exact ⟨.normal, S', μ', rfl, hQ, hE', hS', hst⟩
      · rw [if_neg hi] at hQ ⊢
        exact ⟨.exit i, S', μ', rfl, hQ, hE', hS', hst⟩
    | ret => exact ⟨.ret, S', μ', rfl, hQ, hE', hS', hst⟩
  | .loop c, Q, S, h => fun μ a w hE hS => by
    obtain ⟨I, ⟨n, hI⟩, hr⟩ := h
    have key : ∀ n S' μ' a' w', I n S' → Env S' μ' a' → Sim S'.M μ' w' → Step b S.M μ w S'.M μ' w' → ∀ (bf : Frame) (k : List Item) (cs : List Frame),
        ∃ e a'' w'', AQ b Q S.M μ w e a'' w'' ∧ Arrives P (lone (bf.at a' (.code c :: .inLoop c :: k)) cs w') bf k cs e a'' w'' := by
      intro n
      induction n using Nat.strongRecOn with
      | _ n ih =>
        intro S' μ' a' w' hI hE' hS' hst bf k cs
        obtain ⟨e, a₁, w₁, ⟨ex, S₁, μ₁, rfl, hQ, hE₁, hS₁, hst₁⟩, harr⟩ := aw_sound c _ S' (hr n S' hI) μ' a' w' hE' hS' bf (.inLoop c :: k) cs
        cases ex with
        | normal =>
          obtain ⟨j, hj, hIj⟩ := hQ
          obtain ⟨e₂, a₂, w₂, hq₂, harr₂⟩ := ih j hj S₁ μ₁ a₁ w₁ hIj hE₁ hS₁ (hst.trans hst₁) bf k cs
          exact ⟨e₂, a₂, w₂, hq₂, .of_steps (Steps.trans harr (.one step_inLoop)) harr₂⟩
        | exit id => exact ⟨_, a₁, w₁, ⟨.exit id, S₁, μ₁, rfl, hQ, hE₁, hS₁, hst.trans hst₁⟩, .pass (x := .inLoop c) rfl (fun _ _ => .inl (by simp [Ex.toExit])) harr⟩
        | ret => exact ⟨_, a₁, w₁, ⟨.ret, S₁, μ₁, rfl, hQ, hE₁, hS₁, hst.trans hst₁⟩, .pass (x := .inLoop c) rfl (fun _ _ => .inl (by simp [Ex.toExit])) harr⟩
    intro bf k cs
    obtain ⟨e, a', w', hq, harr⟩ := key n S μ a w hI hE hS .refl bf k cs
    exact ⟨e, a', w', hq, .of_steps (.one step_loop) harr⟩
  | .exit id, Q, S, h => fun μ a w hE hS => wp_exit ⟨.exit id, S, μ, rfl, h, hE, hS, .refl⟩
  | .ret, Q, S, h => fun μ a w hE hS => wp_ret ⟨.ret, S, μ, rfl, h, hE, hS, .refl⟩
  | .label l, Q, S, h => fun μ a w hE hS => wp_label ⟨.normal, S, μ, rfl, h, hE, hS, .refl⟩
  | .scope c, Q, S, h => fun μ a w hE hS => by
    refine wp_scope_straight (wp_mono (aw_sound c Q S h μ a w hE hS) ?_)
    rintro e a' w' ⟨ex, S', μ', rfl, hQ, hE', hS', hst⟩
    cases ex <;> exact ⟨_, S', μ', rfl, hQ, hE', hS', hst⟩
  | .rangeFunc _ _ _ _, Q, S, h => h.elim
  | .goto _, Q, S, h => h.elim
  | .refuse _, Q, S, h => h.elim

/-- What a function hands back: its results' temporaries. -/
def tupV : List Value → Value
  | [v] => v
  | vs => .tuple vs.toArray
def resV (S : St) (ts : List Tmp) : Option Value := (evs S (ts.map .tmp)).map tupV
def retQ (rs : List Tmp) (K : Value → Mem → Prop) : Ex → St → Prop
  | .exit _, _ => False
  | _, S => ow (resV S rs) fun v => K v S.M
@[simp] theorem retQ_normal (rs : List Tmp) (K : Value → Mem → Prop) (S : St) : retQ rs K .normal S = ow (resV S rs) fun v => K v S.M := (rfl)
@[simp] theorem retQ_ret (rs : List Tmp) (K : Value → Mem → Prop) (S : St) : retQ rs K .ret S = ow (resV S rs) fun v => K v S.M := (rfl)
@[simp] theorem retQ_exit (rs : List Tmp) (K : Value → Mem → Prop) (S : St) (i : Nat) : retQ rs K (.exit i) S = False := (rfl)
def argT : Nat → List Value → List (Nat × Value)
  | _, [] => []
  | i, v :: vs => (i, v) :: argT (i + 1) vs
theorem look_argT : ∀ (vs : List Value) (i t : Nat), look (argT i vs) t = if i ≤ t then vs[t - i]? else none
  | [], i, t => by simp [argT, look]
  | v :: vs, i, t => by
    simp only [argT, look]
    by_cases h : t = i
    · subst h; simp
    · rw [if_neg h, look_argT vs (i + 1) t]
      by_cases hi : i ≤ t
      · rw [if_pos hi, if_pos (by omega), show t - i = (t - (i + 1)) + 1 by omega]; simp
      · rw [if_neg hi, if_neg (by omega)]
theorem resV_run {fn : Func} {μ : Map} {a : Act} {w : World} {ts : List Tmp} {v : Value} (hrs : fn.results.toList = ts.map .tmp) (hE : Env S μ a) (h : resV S ts = some v) : ∃ c, (results fn a.tmps).run P w = .ok c w ∧ VRel S.M μ v c := by
  obtain ⟨vs, hvs, rfl⟩ := Option.map_eq_some_iff.1 h
  have hrel := hE.evs hvs
  have hrel' : LRel S.M μ vs (ts.map fun t => a.tmps.getD t undef) := by
    have e : (ts.map Operand.tmp).map a.eval = ts.map fun t => a.tmps.getD t undef := by rw [List.map_map]; rfl
    rw [← e]; exact hrel
  have hm : ∀ (f : ResultVar → Sem Value), (∀ t, f (.tmp t) = pure (a.tmps.getD t undef)) → (fn.results.mapM f).run P w = .ok (ts.map fun t => a.tmps.getD t undef).toArray w := by
    intro f hf
    rw [Array.mapM_eq_mapM_toList, Sem.run_map, hrs]
    have key : ∀ ts : List Tmp, ((ts.map ResultVar.tmp).mapM f).run P w = .ok (ts.map fun t => a.tmps.getD t undef) w := by
      intro ts
      induction ts with
      | nil => simp
      | cons t ts ih => simp only [List.map_cons, List.mapM_cons, hf, Sem.run_bind, Sem.run_pure, Result.andThen_ok, ih]
    rw [key]
    rfl
  unfold results
  rw [Sem.run_bind, hm _ (fun t => rfl), Result.andThen_ok]
  by_cases h1 : (ts.map fun t => a.tmps.getD t undef).toArray.size = 1
  · rw [dif_pos h1]
    refine ⟨_, rfl, ?_⟩
    match vs, hrel' with
    | [v], hrel' =>
      have hl : 0 < (ts.map fun t => a.tmps.getD t undef).length := by simpa using Nat.lt_of_lt_of_eq Nat.zero_lt_one h1.symm
      have := hrel'.2 0 v ((ts.map fun t => a.tmps.getD t undef)[0]) rfl (List.getElem?_eq_getElem hl)
      simpa [tupV] using this
    | [], hrel' => have := hrel'.1; simp at this h1; omega
    | _ :: _ :: _, hrel' => have := hrel'.1; simp at this h1; omega
  · rw [dif_neg h1]
    refine ⟨_, rfl, ?_⟩
    match vs, hrel' with
    | [v], hrel' => have := hrel'.1; simp at this h1; omega
    | [], hrel' => exact VRel.mk_tup hrel'
    | _ :: _ :: _, hrel' => exact VRel.mk_tup hrel'
theorem ctr_of {f : FuncId} {fn : Func} {c : Code} {n : Nat} {ts : List Tmp} {args : List Value} {M : Mem} {K : Value → Mem → Prop} (hf : P.funcs[f]? = some fn) (hnm : (fn.name == "runtime.NumGoroutine") = false) (hb : fn.body = some c) (hn : fn.ntmps = n) (hrs : fn.results.toList = ts.map .tmp)
    (hle : args.length ≤ n) (h : aw P b c (retQ ts K) ⟨n, argT 0 args, M⟩) : Ctr P b f args M K := by
  refine ⟨⟨fn, hf, hnm, by rw [hb]; rfl⟩, fun μ w cs hl hS => ?_⟩
  refine calls_of_wp hf hb ?_
  have hE : Env ⟨n, argT 0 args, M⟩ μ { tmps := cs.toArray ++ Array.replicate (fn.ntmps - cs.toArray.size) undef, defers := [] } := by
    have hlen := hl.1
    refine ⟨by simp only [Array.size_append, List.size_toArray, Array.size_replicate]; omega, fun t v hv ht => ?_, rfl⟩
    rw [look_argT, if_pos (Nat.zero_le _), Nat.sub_zero] at hv
    obtain ⟨c', hc, hrel⟩ := hl.at_ hv
    refine ⟨c', ?_, hrel⟩
    rw [Array.getElem?_append_left (by simpa using (List.getElem?_eq_some_iff.1 hc).1)]
    simpa using hc
  refine wp_mono (aw_sound c _ _ h μ _ w hE hS) ?_
  rintro e a' w' ⟨ex, S', μ', rfl, hQ, hE', hS', hst⟩
  have fin : ow (resV S' ts) (fun v => K v S'.M) → a'.defers = [] ∧ ∃ v, (results fn a'.tmps).run P w' = .ok v w' ∧ ∃ v0 M' c μ', K v0 M' ∧ Ending.returned v = .returned c ∧ VRel M' μ' v0 c ∧ Sim M' μ' w' ∧ Step b M μ w M' μ' w' := by
    intro hQ
    obtain ⟨v, hv, hK⟩ := ow_iff.1 hQ
    obtain ⟨c', hc, hrel⟩ := resV_run (P := P) (w := w') hrs hE' hv
    exact ⟨hE'.defers, c', hc, v, S'.M, c', μ', hK, rfl, hrel, hS', hst⟩
  cases ex with
  | normal => exact fin hQ
  | exit i => exact hQ.elim
  | ret => exact fin hQ
theorem Ctr.det {f : FuncId} {args : List Value} {M M' : Mem} {v : Value} (h : Ctr P b f args M fun v' M'' => v' = v ∧ M'' = M') : Det P b f args M v M' :=
  ⟨h.fn, fun μ w cs hl hS => (h.run μ w cs hl hS).mono fun e w' ⟨v', M'', c, μ', ⟨h1, h2⟩, r⟩ => by subst h1; subst h2; exact ⟨c, μ', r⟩⟩
/-- Results that lie in cells. -/
theorem load_run {S : St} {μ : Map} {a : Act} {w : World} {t : TypeId} {v c : Value} {K : Value → Mem → Prop} (hE : Env S μ a) (hS : Sim S.M μ w) (hv : VRel S.M μ v c) (h : loadK P S t K v) :
    ∃ u d, (do loadVar t (← asAddr c) : Sem Value).run P w = .ok d w ∧ VRel S.M μ u d ∧ K u S.M := by
  unfold loadK at h
  split at h
  · rename_i id off
    obtain ⟨k, hk, h⟩ := ow_iff.1 h
    obtain ⟨d, i, hd, hi, hcase⟩ := qLoad_some hk
    obtain ⟨-, ad, s, rfl, hs, hkn, hat⟩ := hv.ptr_inv
    rcases hcase with ⟨n, rfl, hn, hagg⟩ | ⟨rfl, hn1, hn2⟩
    · obtain ⟨cs, hcs, hK⟩ := ow_iff.1 h
      obtain ⟨r, hr, hlen, ds, hrel, hcell⟩ := hS.cells hcs
      rw [hr] at hs
      injection hs with hs
      have := hat r hs.symm
      refine ⟨_, .agg ds.toArray, ?_, .mk_agg hrel, hK⟩
      have hl : ds.length = n := by rw [← hrel.1, hlen]
      have hrun := run_loadCells (P := P) (w := w) ad ds (by intro j u hu; rw [this, add_add_]; exact hcell j u hu)
      rw [hl] at hrun
      have hA := run_isAgg hd w
      have hA' : (isAgg t).run P w = .ok true w := by rw [hA]; rcases hagg with ⟨fs, rfl⟩ | ⟨n, e, rfl⟩ <;> rfl
      simp [asAddr, loadVar, hA', sizeOf, typeInfo, hi, hn, hrun]
    · obtain ⟨c, hc, hK⟩ := ow_iff.1 h
      obtain ⟨r, hr, e, hcell, hrel⟩ := hS.cell hc
      rw [hr] at hs
      injection hs with hs
      have := hat r hs.symm
      refine ⟨_, e, ?_, hrel, hK⟩
      have hA := run_isAgg hd w
      have hA' : (isAgg t).run P w = .ok false w := by
        rw [hA]
        cases d <;> first | rfl | exact absurd rfl (hn1 _) | exact absurd rfl (hn2 _ _)
      rw [← this] at hcell
      simp [asAddr, loadVar, hA', hcell]
  · exact h.elim
def resQ (P : Program) (S : St) : List ResultVar → (List Value → Prop) → Prop
  | [], k => k []
  | .tmp t :: rs, k => ow (S.get t) fun v => resQ P S rs fun vs => k (v :: vs)
  | .cell t ty :: rs, k => ow (S.get t) fun v => loadK P S ty (fun c _ => resQ P S rs fun vs => k (c :: vs)) v
def retC (P : Program) (rs : List ResultVar) (K : Value → Mem → Prop) : Ex → St → Prop
  | .exit _, _ => False
  | _, S => resQ P S rs fun vs => K (tupV vs) S.M
def resF (tmps : Array Value) : ResultVar → Sem Value := fun
    | .tmp t => pure (tmps.getD t undef)
    | .cell a t => do loadVar t (← asAddr (tmps.getD a undef))
theorem resQ_run {S : St} {μ : Map} {a : Act} {w : World} (hE : Env S μ a) (hS : Sim S.M μ w) : ∀ (rs : List ResultVar) {k : List Value → Prop}, resQ P S rs k →
    ∃ vs cs, (rs.mapM (resF a.tmps)).run P w = .ok cs w ∧ LRel S.M μ vs cs ∧ k vs
  | [], k, h => ⟨[], [], by simp, .nil, h⟩
  | .tmp t :: rs, k, h => by
    obtain ⟨v, hv, h⟩ := ow_iff.1 h
    obtain ⟨vs, cs, h1, h2, h3⟩ := resQ_run hE hS rs h
    have hrel : VRel S.M μ v (a.tmps.getD t undef) := hE.ev (x := .tmp t) hv
    exact ⟨v :: vs, _ :: cs, by simp only [List.mapM_cons, Sem.run_bind, resF, Sem.run_pure, Result.andThen_ok, h1], .cons hrel h2, h3⟩
  | .cell t ty :: rs, k, h => by
    obtain ⟨v, hv, h⟩ := ow_iff.1 h
    have hrel : VRel S.M μ v (a.tmps.getD t undef) := hE.ev (x := .tmp t) hv
    obtain ⟨u, d, h1, h2, h⟩ := load_run hE hS hrel h
    obtain ⟨vs, cs, h3, h4, h5⟩ := resQ_run hE hS rs h
    refine ⟨u :: vs, d :: cs, ?_, .cons h2 h4, h5⟩
    rw [List.mapM_cons, Sem.run_bind, show (resF a.tmps (.cell t ty)).run P w = .ok d w from h1, Result.andThen_ok, Sem.run_bind, h3, Result.andThen_ok]
    rfl
theorem resC_run {fn : Func} {S : St} {μ : Map} {a : Act} {w : World} {rs : List ResultVar} {K : Value → Prop} (hrs : fn.results.toList = rs) (hE : Env S μ a) (hS : Sim S.M μ w) (h : resQ P S rs fun vs => K (tupV vs)) :
    ∃ v c, (results fn a.tmps).run P w = .ok c w ∧ VRel S.M μ v c ∧ K v := by
  obtain ⟨vs, cs, h1, h2, h3⟩ := resQ_run hE hS rs h
  refine ⟨tupV vs, if h : cs.toArray.size = 1 then cs.toArray[0] else .tuple cs.toArray, ?_, ?_, h3⟩
  · unfold results
    rw [Sem.run_bind]
    have hm : ∀ f : ResultVar → Sem Value, (∀ r, f r = resF a.tmps r) → (fn.results.mapM f).run P w = .ok cs.toArray w := by
      intro f hf
      obtain rfl : f = resF a.tmps := funext hf
      rw [Array.mapM_eq_mapM_toList, Sem.run_map, hrs, h1]
      rfl
    rw [hm _ (fun r => by cases r <;> rfl), Result.andThen_ok]
    rfl
  · by_cases h1 : cs.toArray.size = 1
    · rw [dif_pos h1]
      match vs, h2 with
      | [v], h2 =>
        have hl : 0 < cs.length := by simpa using Nat.lt_of_lt_of_eq Nat.zero_lt_one h1.symm
        have := h2.2 0 v (cs[0]) rfl (List.getElem?_eq_getElem hl)
        simpa [tupV] using this
      | [], h2 => have := h2.1; simp at this h1; omega
      | _ :: _ :: _, h2 => have := h2.1; simp at this h1; omega
    · rw [dif_neg h1]
      match vs, h2 with
      | [v], h2 => have := h2.1; simp at this h1; omega
      | [], h2 => exact VRel.mk_tup h2
      | _ :: _ :: _, h2 => exact VRel.mk_tup h2
theorem ctr_ofC {f : FuncId} {fn : Func} {c : Code} {n : Nat} {rs : List ResultVar} {args : List Value} {M : Mem} {K : Value → Mem → Prop} (hf : P.funcs[f]? = some fn) (hnm : (fn.name == "runtime.NumGoroutine") = false) (hb : fn.body = some c) (hn : fn.ntmps = n) (hrs : fn.results.toList = rs)
    (hle : args.length ≤ n) (h : aw P b c (retC P rs K) ⟨n, argT 0 args, M⟩) : Ctr P b f args M K := by
  refine ⟨⟨fn, hf, hnm, by rw [hb]; rfl⟩, fun μ w cs hl hS => ?_⟩
  refine calls_of_wp hf hb ?_
  have hE : Env ⟨n, argT 0 args, M⟩ μ { tmps := cs.toArray ++ Array.replicate (fn.ntmps - cs.toArray.size) undef, defers := [] } := by
    have hlen := hl.1
    refine ⟨by simp only [Array.size_append, List.size_toArray, Array.size_replicate]; omega, fun t v hv ht => ?_, rfl⟩
    rw [look_argT, if_pos (Nat.zero_le _), Nat.sub_zero] at hv
    obtain ⟨c', hc, hrel⟩ := hl.at_ hv
    refine ⟨c', ?_, hrel⟩
    rw [Array.getElem?_append_left (by simpa using (List.getElem?_eq_some_iff.1 hc).1)]
    simpa using hc
  refine wp_mono (aw_sound c _ _ h μ _ w hE hS) ?_
  rintro e a' w' ⟨ex, S', μ', rfl, hQ, hE', hS', hst⟩
  have fin : (resQ P S' rs fun vs => K (tupV vs) S'.M) → a'.defers = [] ∧ ∃ v, (results fn a'.tmps).run P w' = .ok v w' ∧ ∃ v0 M' c μ', K v0 M' ∧ Ending.returned v = .returned c ∧ VRel M' μ' v0 c ∧ Sim M' μ' w' ∧ Step b M μ w M' μ' w' := by
    intro hQ
    obtain ⟨v, c', hc, hrel, hK⟩ := resC_run (P := P) (K := fun v => K v S'.M) hrs hE' hS' hQ
    exact ⟨hE'.defers, c', hc, v, S'.M, c', μ', hK, rfl, hrel, hS', hst⟩
  cases ex with
  | normal => exact fin hQ
  | exit i => exact hQ.elim
  | ret => exact fin hQ
/-- What a pure function lays in memory is forgotten, where its result has no address. -/
def Keeps (M M' : Mem) : Prop := ∀ (i : Nat) s, M[i]? = some s → M'[i]? = some s
theorem Keeps.get {M M' : Mem} (h : Keeps M M') {i : Nat} {s : Slot} (hs : M[i]? = some s) : M'[i]? = some s := h i s hs
theorem Keeps.refl (M : Mem) : Keeps M M := fun _ _ h => h
theorem Keeps.trans {A B C : Mem} (h : Keeps A B) (h' : Keeps B C) : Keeps A C := fun i s hs => h' i s (h i s hs)
theorem Keeps.app {M A : Mem} (B : Mem) (h : Keeps M A) : Keeps M (A ++ B) := fun i s hs => by
  have := h i s hs
  rw [List.getElem?_append_left (List.getElem?_eq_some_iff.1 this).1]; exact this
theorem Step.forget {M M' : Mem} {μ μ' : Map} {w w' : World} (h : Step b M μ w M' μ' w') (hk : Keeps M M') : Step b M μ w M μ w' where
  slot := fun i s hs => ⟨s, hs, Slot.evolves_refl _ _⟩
  map := fun _ _ => ⟨rfl, rfl⟩
  os := h.os
  tape := h.tape
  output := h.output
  size := h.size
  block := h.block
  freshM := fun i r es hi hr => absurd (List.getElem?_eq_some_iff.1 hr).1 (by omega)
  fresh := fun i r hi hr => absurd (List.getElem?_eq_some_iff.1 hr).1 (by omega)
theorem VRel.back {M M' : Mem} {μ μ' : Map} {v d0 : Value} (h0 : VRel M μ v d0) (hk : Keeps M M') (hm : ∀ i, i < M.length → μ'.at_ i = μ.at_ i ∧ μ'.room i = μ.room i) : ∀ {d : Value}, VRel M' μ' v d → VRel M μ v d := by
  induction h0 with
  | plain hp => intro d h; have := h.of_plain hp; subst this; exact .plain hp
  | @ptr id off a s hs hkn ha =>
    intro d h
    obtain ⟨-, a', s', rfl, h1, h2, h3⟩ := h.ptr_inv
    rw [hk _ _ hs] at h1
    injection h1 with h1
    subst h1
    exact .ptr hs hkn fun r hr => by rw [h3 r hr, (hm _ (List.getElem?_eq_some_iff.1 hs).1).1]
  | @sl id off n m c a s hs hkn hn hc ha =>
    intro d h
    obtain ⟨-, a', cp, s', rfl, h1, h2, h3, h4, h5⟩ := h.sl_inv
    rw [hk _ _ hs] at h1
    injection h1 with h1
    subst h1
    obtain ⟨m1, m2⟩ := hm _ (List.getElem?_eq_some_iff.1 hs).1
    exact .sl hs hkn h3 h4 fun r hr => by rw [← m1, ← m2]; exact h5 r hr
  | agg hsz _ ih =>
    intro d h
    obtain ⟨ys, rfl, e1, e2⟩ := h.agg_inv
    refine .agg (by simpa using e1) fun i x y hx hy => ?_
    have hz := Array.getElem?_eq_getElem (Nat.lt_of_lt_of_eq (Array.getElem?_eq_some_iff.1 hx).1 hsz)
    exact ih i x _ hx hz (e2 i x y (by simpa using hx) (by simpa using hy))
  | tup hsz _ ih =>
    intro d h
    obtain ⟨ys, rfl, e1, e2⟩ := h.tup_inv
    refine .tup (by simpa using e1) fun i x y hx hy => ?_
    have hz := Array.getElem?_eq_getElem (Nat.lt_of_lt_of_eq (Array.getElem?_eq_some_iff.1 hx).1 hsz)
    exact ih i x _ hx hz (e2 i x y (by simpa using hx) (by simpa using hy))
  | fn hsz _ hsz' _ ih ih' =>
    intro d h
    cases h with
    | plain hp => simp [plainV] at hp
    | fn e1 e2 e3 e4 =>
      refine .fn e1 (fun i x y hx hy => ?_) e3 fun i x y hx hy => ?_
      · have hz := Array.getElem?_eq_getElem (Nat.lt_of_lt_of_eq (Array.getElem?_eq_some_iff.1 hx).1 hsz)
        exact ih i x _ hx hz (e2 i x y hx hy)
      · have hz := Array.getElem?_eq_getElem (Nat.lt_of_lt_of_eq (Array.getElem?_eq_some_iff.1 hx).1 hsz')
        exact ih' i x _ hx hz (e4 i x y hx hy)
theorem Sim.forget {M M' : Mem} {μ μ' : Map} {w w' : World} (hS0 : Sim M μ w) (hS : Sim M' μ' w') (h : Step b M μ w M' μ' w') (hk : Keeps M M') : Sim M μ w' := by
  refine ⟨fun id r hr => ?_, hS0.inj, fun hon => ⟨(hS.glob hon).1, (hS.glob hon).2.1, (hS0.glob hon).2.2⟩, fun id r es hr => hS.maps.1 id r es (hk id _ hr), hS0.maps.2⟩
  have hlt := (List.getElem?_eq_some_iff.1 hr).1
  obtain ⟨e1, e2⟩ := h.map id hlt
  obtain ⟨a1, a2, a3⟩ := hS.row id r (hk id _ hr)
  rw [e1] at a1 a2 a3
  rw [e2] at a3
  -- the cells: what they say in M
  obtain ⟨b1, b2, b3⟩ := hS0.row id r hr
  refine ⟨a1, fun j c hc => ?_, a3⟩
  obtain ⟨d, hd, hv⟩ := a2 j c hc
  obtain ⟨d0, hd0, hv0⟩ := b2 j c hc
  exact ⟨d, hd, hv0.back hk h.map hv⟩
/-- Values without addresses, and what is made of them. -/
def noAddr (v : Value) : Bool := plainV v || (match v with | .agg cs => cs.toList.all plainV | .tuple cs => cs.toList.all fun c => plainV c || (match c with | .agg ds => ds.toList.all plainV | _ => false) | _ => false)
theorem VRel.aggMove {M M' : Mem} {μ μ' : Map} {cs : Array Value} {c : Value} (hp : cs.toList.all plainV = true) (h : VRel M' μ' (.agg cs) c) : VRel M μ (.agg cs) c := by
  rw [h.agg_plain hp]
  have := VRel.mk_agg (M := M) (μ := μ) (LRel.plain hp)
  simpa using this
theorem VRel.move {M M' : Mem} {μ μ' : Map} {v c : Value} (hp : noAddr v = true) (h : VRel M' μ' v c) : VRel M μ v c := by
  unfold noAddr at hp
  rw [Bool.or_eq_true] at hp
  rcases hp with hp | hp
  · have := h.of_plain hp
    subst this
    exact .plain hp
  · split at hp
    · exact h.aggMove hp
    · rename_i cs
      obtain ⟨ys, rfl, h1, h2⟩ := h.tup_inv
      refine .tup (by simpa using h1) fun i x y hx hy => ?_
      have hxy := h2 i x y (by simpa using hx) (by simpa using hy)
      have hm : x ∈ cs.toList := List.mem_of_getElem? (i := i) (by simpa using hx)
      have hpx := List.all_eq_true.1 hp x hm
      rw [Bool.or_eq_true] at hpx
      rcases hpx with hpx | hpx
      · have := hxy.of_plain hpx
        subst this
        exact .plain hpx
      · split at hpx
        · exact hxy.aggMove hpx
        · cases hpx
    · cases hp
theorem Ctr.pure {f : FuncId} {args : List Value} {M : Mem} {v : Value} (h : Ctr P b f args M fun v' M' => v' = v ∧ Keeps M M') (hp : noAddr v = true) : Det P b f args M v M :=
  ⟨h.fn, fun μ w cs hl hS => (h.run μ w cs hl hS).mono fun e w' ⟨v', M', c, μ', ⟨h1, h2⟩, he, hv, hS', hst⟩ => by
    subst h1
    exact ⟨c, μ, he, hv.move hp, hS.forget hS' hst h2, hst.forget h2⟩⟩
end
end Go.Proofs.YtodbjnngkonklaaGreat
