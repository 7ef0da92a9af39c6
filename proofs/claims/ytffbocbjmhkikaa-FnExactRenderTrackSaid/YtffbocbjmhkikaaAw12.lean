/- Regions that draw their order: run in the order of the text. No conditions. -/
import Derived.Test.YtffbocbjmhkikaaAw11
namespace Go.Proofs.Ytffbocbjmhkikaa
open Go.RowKit
set_option linter.unusedVariables false
set_option linter.unusedSimpArgs false

def dstOf (ops : Array Oper) (j : Nat) : Option Tmp := (ops[j]?).bind (·.dst)
def awG (ops : Array Oper) (o : Oper) (S : St) (A B : Prop) : Prop :=
  match o.guard with
  | none => A
  | some (j, want) => ow ((dstOf ops j).bind S.get) fun g => match g with
    | .bool y => (y = want → A) ∧ (y = !want → B)
    | .tuple _ => B
    | _ => False
/-- The stable operations, in the order of the text; dp: on which each hangs; segs: what each has laid. -/
noncomputable def awD (P : Program) (ops : Array Oper) (dp : List (List Nat)) (n : Nat) (M0 : Mem) (Q : St → Prop) : List Oper → Nat → List (Nat × Value) → List (List Slot) → Prop
  | [], _, T, segs => Q ⟨n, T, M0 ++ segs.flatten⟩
  | o :: os, k, T, segs =>
    awG ops o ⟨n, T, M0 ++ maskP segs 0 fun j => (dp.getD k []).contains j⟩
      (awOp P true (M0 ++ maskP segs 0 fun j => (dp.getD k []).contains j).length o ⟨n, T, M0 ++ maskP segs 0 fun j => (dp.getD k []).contains j⟩ fun v M' =>
        awD P ops dp n M0 Q os (k + 1) (St.put ⟨n, T, M0⟩ o.dst v).T (segs ++ [M'.drop (M0 ++ maskP segs 0 fun j => (dp.getD k []).contains j).length]))
      (awD P ops dp n M0 Q os (k + 1) (St.put ⟨n, T, M0⟩ o.dst undef).T (segs ++ [[]]))
def tmpsOf (o : Oper) : List Tmp := o.op.operands.toList.filterMap fun | .tmp t => some t | _ => none
def drawBase (ops : Array Oper) (m : Nat) (dp : List (List Nat)) : Bool :=
  decide (m ≤ ops.size) &&
  ((List.range ops.size).all fun k => match ops[k]? with
    | none => false
    | some o =>
      (o.after.all fun e => !Region.binds .any e || decide (e.on < k)) &&
      ((dp.getD k []).all fun j => decide (j < k) && o.after.any fun e => Region.binds .any e && (e.on == j || (dp.getD e.on []).contains j)) &&
      (if k < m then
        ((dp.getD k []).all fun j => (dp.getD j []).all fun i => (dp.getD k []).contains i) &&
        ((tmpsOf o).all fun t => (List.range m).all fun j => dstOf ops j != some t || (dp.getD k []).contains j) &&
        (match o.guard with | none => true | some (j, _) => (dp.getD k []).contains j) &&
        ((List.range k).all fun j => o.dst.isNone || dstOf ops j != o.dst)
      else true))
def drawTail (ops : Array Oper) (m : Nat) (dp : List (List Nat)) : Bool := (List.range ops.size).all fun k => decide (k < m) || (List.range k).all fun j => (dp.getD k []).contains j
def drawOk (ops : Array Oper) (m : Nat) (dp : List (List Nat)) : Bool := drawBase ops m dp && drawTail ops m dp
theorem drawOk_tail {ops : Array Oper} {m : Nat} {dp : List (List Nat)} (h : drawOk ops m dp = true) : ∀ k, m ≤ k → k < ops.size → ∀ j, j < k → (dp.getD k []).contains j = true := by
  unfold drawOk at h
  rw [Bool.and_eq_true] at h
  intro k hm hk j hj
  have := List.all_eq_true.1 h.2 k (List.mem_range.2 hk)
  rw [Bool.or_eq_true] at this
  rcases this with h1 | h1
  · have := of_decide_eq_true h1; omega
  · exact List.all_eq_true.1 h1 j (List.mem_range.2 hj)
structure DrawOk (ops : Array Oper) (m : Nat) (dp : List (List Nat)) : Prop where
  le : m ≤ ops.size
  back : ∀ k o, ops[k]? = some o → ∀ e ∈ o.after.toList, Region.binds .any e = true → e.on < k
  dep : ∀ k o, ops[k]? = some o → ∀ j, (dp.getD k []).contains j = true → j < k ∧ ∃ e ∈ o.after.toList, Region.binds .any e = true ∧ (e.on = j ∨ (dp.getD e.on []).contains j = true)
  trans : ∀ k, k < m → ∀ j, (dp.getD k []).contains j = true → ∀ i, (dp.getD j []).contains i = true → (dp.getD k []).contains i = true
  reads : ∀ k o, k < m → ops[k]? = some o → ∀ t, .tmp t ∈ o.op.operands.toList → ∀ j, j < m → dstOf ops j = some t → (dp.getD k []).contains j = true
  guard : ∀ k o j y, k < m → ops[k]? = some o → o.guard = some (j, y) → (dp.getD k []).contains j = true
  apart : ∀ k t j, k < m → dstOf ops k = some t → j < k → dstOf ops j ≠ some t
theorem drawBase_spec {ops : Array Oper} {m : Nat} {dp : List (List Nat)} (h : drawBase ops m dp = true) : DrawOk ops m dp := by
  unfold drawBase at h
  rw [Bool.and_eq_true] at h
  obtain ⟨h1, h2⟩ := h
  have h1 : m ≤ ops.size := of_decide_eq_true h1
  have h2 := List.all_eq_true.1 h2
  have at_ : ∀ k o, ops[k]? = some o → _ := fun k o ho => by
    have := h2 k (List.mem_range.2 (Array.getElem?_eq_some_iff.1 ho).1)
    rw [ho] at this
    simp only [Bool.and_eq_true] at this
    exact this
  refine ⟨h1, fun k o ho e he hb => ?_, fun k o ho j hj => ?_, fun k hk j hj i hi => ?_, fun k o hk ho t ht j hj hd => ?_, fun k o j y hk ho hg => ?_, fun k t j hk hd hj hd' => ?_⟩
  · have := (at_ k o ho).1.1
    rw [Array.all_eq_true] at this
    obtain ⟨i, hi, rfl⟩ := List.getElem_of_mem he
    have := this i (by simpa using hi)
    simp at hb
    simpa [hb] using this
  · have := (at_ k o ho).1.2
    rw [List.all_eq_true] at this
    have := this j (by simpa using hj)
    simp only [Bool.and_eq_true, decide_eq_true_eq, Array.any_eq_true] at this
    obtain ⟨h3, i, hi, h4, h5⟩ := this
    refine ⟨h3, o.after[i], by simp, h4, ?_⟩
    simpa using h5
  · obtain ⟨o, ho⟩ : ∃ o, ops[k]? = some o := ⟨_, Array.getElem?_eq_getElem (by omega)⟩
    have := (at_ k o ho).2
    rw [if_pos hk] at this
    simp only [Bool.and_eq_true, List.all_eq_true] at this
    exact this.1.1.1 j (by simpa using hj) i (by simpa using hi)
  · have := (at_ k o ho).2
    rw [if_pos hk] at this
    simp only [Bool.and_eq_true, List.all_eq_true] at this
    have := this.1.1.2 t (List.mem_filterMap.2 ⟨_, ht, rfl⟩) j (by simpa using hj)
    simpa [hd] using this
  · have := (at_ k o ho).2
    rw [if_pos hk] at this
    simp only [Bool.and_eq_true] at this
    have := this.1.2
    rw [hg] at this
    exact this
  · obtain ⟨o, ho⟩ : ∃ o, ops[k]? = some o := ⟨_, Array.getElem?_eq_getElem (by omega)⟩
    have hod : o.dst = some t := by simpa [dstOf, ho] using hd
    have := (at_ k o ho).2
    rw [if_pos hk] at this
    simp only [Bool.and_eq_true, List.all_eq_true] at this
    have := this.2 j (by simpa using hj)
    simp [hod, hd'] at this
theorem drawOk_spec {ops : Array Oper} {m : Nat} {dp : List (List Nat)} (h : drawOk ops m dp = true) : DrawOk ops m dp := by
  unfold drawOk at h
  rw [Bool.and_eq_true] at h
  exact drawBase_spec h.1

theorem look_filter {p : Nat → Bool} : ∀ (T : List (Nat × Value)) (t : Nat), look (T.filter fun e => p e.1) t = if p t = true then look T t else none
  | [], t => by simp [look]
  | (u, v) :: T, t => by
    simp only [List.filter_cons, look]
    by_cases hu : p u = true
    · rw [if_pos hu]
      simp only [look]
      by_cases ht : t = u
      · subst ht; simp [hu]
      · rw [if_neg ht, if_neg ht]; exact look_filter T t
    · rw [if_neg hu]
      by_cases ht : t = u
      · subst ht
        rw [look_filter T t, if_neg hu, if_neg hu]
      · rw [if_neg ht]; exact look_filter T t

/-- What is known of each stable operation: its environment, its outcome, its new slots. -/
structure Outs (P : Program) (ops : Array Oper) (dp : List (List Nat)) (n : Nat) (M0 : Mem) (m : Nat) (T : Nat → List (Nat × Value)) (vs : Nat → Value) (Ns : List (List Slot)) : Prop where
  len : Ns.length = m
  env : ∀ k o, k < m → ops[k]? = some o → T (k + 1) = (St.put ⟨n, T k, M0⟩ o.dst (vs k)).T
  out : ∀ k o, k < m → ops[k]? = some o → let M := M0 ++ maskP (Ns.take k) 0 fun j => (dp.getD k []).contains j
    awG ops o ⟨n, T k, M⟩ (∃ M', Ns[k]? = some (M'.drop M.length) ∧ ∀ K' : Value → Mem → Prop, K' (vs k) M' → awOp P true M.length o ⟨n, T k, M⟩ K') (vs k = undef ∧ Ns[k]? = some [])
theorem awG_imp {ops : Array Oper} {o : Oper} {S : St} {A B A' B' C : Prop} (h : awG ops o S A B) (ha : A → ∃ x : C, A') : True := trivial
theorem awG_cases {ops : Array Oper} {o : Oper} {S : St} {A B : Prop} (h : awG ops o S A B) : (A ∧ ∀ B', awG ops o S A B') ∨ (B ∧ ∀ A', awG ops o S A' B) := by
  unfold awG at h ⊢
  cases hg : o.guard with
  | none => rw [hg] at h; exact .inl ⟨h, fun _ => h⟩
  | some jw =>
    obtain ⟨j, want⟩ := jw
    rw [hg] at h
    obtain ⟨g, h1, h2⟩ := ow_iff.1 h
    simp only [h1, ow_some]
    cases g <;> simp only at h2 <;> try exact h2.elim
    · rename_i y
      by_cases hy : y = want
      · have ha := h2.1 hy
        exact .inl ⟨ha, fun B' => ⟨fun _ => ha, fun h => by subst hy; cases y <;> cases h⟩⟩
      · have hb := h2.2 (by cases y <;> cases want <;> simp_all)
        exact .inr ⟨hb, fun A' => ⟨fun h => absurd h hy, fun _ => hb⟩⟩
    · exact .inr ⟨h2, fun _ => h2⟩
theorem awG_mono {ops : Array Oper} {o : Oper} {S : St} {A B A' B' : Prop} (h : awG ops o S A B) (ha : A → A') (hb : B → B') : awG ops o S A' B' := by
  unfold awG at h ⊢
  cases hg : o.guard with
  | none => rw [hg] at h; exact ha h
  | some jw =>
    obtain ⟨j, want⟩ := jw
    rw [hg] at h
    obtain ⟨g, h1, h2⟩ := ow_iff.1 h
    simp only [h1, ow_some]
    cases g <;> simp only at h2 ⊢ <;> try exact h2.elim
    · exact ⟨fun h => ha (h2.1 h), fun h => hb (h2.2 h)⟩
    · exact hb h2
theorem awD_outs {P : Program} {ops : Array Oper} {dp : List (List Nat)} {n : Nat} {M0 : Mem} {Q : St → Prop} : ∀ (os : List Oper) (k m : Nat) (T : Nat → List (Nat × Value)) (vs : Nat → Value) (Ns : List (List Slot)),
    (∀ i, os[i]? = if i < os.length then ops[k + i]? else none) → k + os.length = m → Outs P ops dp n M0 k T vs Ns → awD P ops dp n M0 Q os k (T k) Ns →
    ∃ T' vs' Ns', Outs P ops dp n M0 m T' vs' Ns' ∧ T' 0 = T 0 ∧ Q ⟨n, T' m, M0 ++ Ns'.flatten⟩ := by
  intro os
  induction os with
  | nil =>
    intro k m T vs Ns _ hm hO h
    simp only [List.length_nil, Nat.add_zero] at hm
    subst hm
    exact ⟨T, vs, Ns, hO, rfl, h⟩
  | cons o os ih =>
    intro k m T vs Ns hos hm hO h
    simp only [List.length_cons] at hm hos
    have ho : ops[k]? = some o := by have := hos 0; simpa using this.symm
    have hos' : ∀ i, os[i]? = if i < os.length then ops[k + 1 + i]? else none := fun i => by
      have := hos (i + 1)
      simp only [List.getElem?_cons_succ] at this
      rw [this]
      by_cases hi : i < os.length
      · rw [if_pos (by omega), if_pos hi, show k + (i + 1) = k + 1 + i by omega]
      · rw [if_neg (by omega), if_neg hi]
    simp only [awD] at h
    -- go on with one more outcome
    have next : ∀ (v : Value) (N : List Slot), awD P ops dp n M0 Q os (k + 1) (St.put ⟨n, T k, M0⟩ o.dst v).T (Ns ++ [N]) →
        (awG ops o ⟨n, T k, M0 ++ maskP Ns 0 fun j => (dp.getD k []).contains j⟩ (∃ M', N = M'.drop (M0 ++ maskP Ns 0 fun j => (dp.getD k []).contains j).length ∧ ∀ K' : Value → Mem → Prop, K' v M' → awOp P true (M0 ++ maskP Ns 0 fun j => (dp.getD k []).contains j).length o ⟨n, T k, M0 ++ maskP Ns 0 fun j => (dp.getD k []).contains j⟩ K') (v = undef ∧ N = [])) →
        ∃ T' vs' Ns', Outs P ops dp n M0 m T' vs' Ns' ∧ T' 0 = T 0 ∧ Q ⟨n, T' m, M0 ++ Ns'.flatten⟩ := by
      intro v N hD hG
      have hO' : Outs P ops dp n M0 (k + 1) (fun i => if i = k + 1 then (St.put ⟨n, T k, M0⟩ o.dst v).T else T i) (fun i => if i = k then v else vs i) (Ns ++ [N]) := by
        refine ⟨by simp [hO.len], fun i o' hi ho' => ?_, fun i o' hi ho' => ?_⟩
        · by_cases hik : i = k
          · subst hik
            rw [ho] at ho'
            injection ho' with ho'
            subst ho'
            simp
          · simp only [if_neg (show ¬ i + 1 = k + 1 by omega), if_neg (show ¬ i = k + 1 by omega), if_neg hik]
            exact hO.env i o' (by omega) ho'
        · have hlen := hO.len
          by_cases hik : i = k
          · subst hik
            rw [ho] at ho'
            injection ho' with ho'
            subst ho'
            simp only [if_neg (show ¬ i = i + 1 by omega), if_true]
            have ht : (Ns ++ [N]).take i = Ns := by rw [← hlen]; simp
            have hg : (Ns ++ [N])[i]? = some N := by rw [← hlen]; simp
            rw [ht, hg]
            exact awG_mono hG (fun ⟨M', e1, e2⟩ => ⟨M', by rw [e1], e2⟩) (fun ⟨e1, e2⟩ => ⟨e1, by rw [e2]⟩)
          · simp only [if_neg (show ¬ i = k + 1 by omega), if_neg hik]
            have ht : (Ns ++ [N]).take i = Ns.take i := by rw [List.take_append_of_le_length (by omega)]
            have hg : (Ns ++ [N])[i]? = Ns[i]? := List.getElem?_append_left (by omega)
            rw [ht, hg]
            exact hO.out i o' (by omega) ho'
      obtain ⟨T', vs', Ns', h1, h2, h3⟩ := ih (k + 1) m _ _ _ hos' (by omega) hO' (by simpa using hD)
      exact ⟨T', vs', Ns', h1, by rw [h2]; exact if_neg (by omega), h3⟩
    rcases awG_cases h with ⟨hA, hG⟩ | ⟨hB, hG⟩
    · obtain ⟨v, M', h1, h2⟩ := awOp_pt o _ hA
      refine next v _ h1 ?_
      have := hG (v = undef ∧ M'.drop (M0 ++ maskP Ns 0 fun j => (dp.getD k []).contains j).length = [])
      exact awG_mono this (fun _ => ⟨M', rfl, h2⟩) id
    · refine next undef [] hB ?_
      exact awG_mono (hG False) (fun h => h.elim) (fun _ => ⟨rfl, rfl⟩)
end Go.Proofs.Ytffbocbjmhkikaa
