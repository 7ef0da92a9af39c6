/- Regions that draw their order, by an invariant over what has been done. No conditions. -/
import Derived.Test.YtffbocbjmhkikaaAw18
namespace Go.Proofs.Ytffbocbjmhkikaa
open Go.RowKit
set_option linter.unusedVariables false
set_option linter.unusedSimpArgs false

def drawBack (ops : Array Oper) : Bool := (List.range ops.size).all fun k => match ops[k]? with
  | none => false
  | some o => o.guard.isNone && o.after.all fun e => !Region.binds .any e || decide (e.on < k)
theorem drawBack_spec {ops : Array Oper} (h : drawBack ops = true) : ∀ k o, ops[k]? = some o → o.guard = none ∧ ∀ e ∈ o.after.toList, Region.binds .any e = true → e.on < k := by
  intro k o ho
  have := List.all_eq_true.1 h k (List.mem_range.2 (Array.getElem?_eq_some_iff.1 ho).1)
  rw [ho] at this
  simp only [Bool.and_eq_true] at this
  obtain ⟨h1, h2⟩ := this
  refine ⟨by simpa using h1, fun e he hb => ?_⟩
  rw [Array.all_eq_true] at h2
  obtain ⟨i, hi, rfl⟩ := List.getElem_of_mem he
  have := h2 i (by simpa using hi)
  simp at hb
  simpa [hb] using this
def upX (X : Nat → Bool) (k : Nat) : Nat → Bool := fun j => if j = k then true else X j
@[simp] theorem upX_same (X : Nat → Bool) (k : Nat) : upX X k k = true := if_pos rfl
theorem upX_ne {X : Nat → Bool} {j k : Nat} (h : j ≠ k) : upX X k j = X j := if_neg h
section
variable {P : Program} {ops : Array Oper} {b : Nat}
theorem inv_any {Q : St → Prop} (hB : drawBack ops = true) (I : (Nat → Bool) → St → Prop)
    (hstep : ∀ X S k o, I X S → ops[k]? = some o → X k = false → (∀ e ∈ o.after.toList, Region.binds .any e = true → X e.on = true) → awOp P false b o S fun v M' => I (upX X k) (St.put { S with M := M' } o.dst v))
    (hend : ∀ X S, (∀ k, k < ops.size → X k = true) → I X S → Q S) : ∀ (fuel : Nat) (listed : Array Bool) (S : St) (μ : Map) (a : Act) (w : World) (R : Exit → Act → World → Prop), listed.size = ops.size → left_ ops listed ≤ fuel → I (fun j => listed.getD j false) S → Env S μ a → Sim S.M μ w →
      (∀ S' μ' a' w', Q S' → Env S' μ' a' → Sim S'.M μ' w' → Step b S.M μ w S'.M μ' w' → R .normal a' w') → wpAny P .any ops R fuel listed a w := by
  have hB' := drawBack_spec hB
  have full : ∀ listed : Array Bool, listed.size = ops.size → (∀ k, k < ops.size → listed.getD k false = true) → Region.ready .any ops listed = [] := by
    intro listed hs hall
    apply List.eq_nil_iff_forall_not_mem.2
    intro i hi
    obtain ⟨o, ho, h1, -⟩ := ready_iff.1 hi
    have hio := (Array.getElem?_eq_some_iff.1 ho).1
    rw [getD_tf (by omega), hall i hio] at h1
    cases h1
  intro fuel
  induction fuel with
  | zero =>
    intro listed S μ a w R hs hf hI hE hS hR
    have hall : ∀ k, k < ops.size → listed.getD k false = true := by
      intro k hk
      unfold left_ at hf
      have h0 : (List.range ops.size).countP (fun i => !listed.getD i true) = 0 := by omega
      rw [List.countP_eq_zero] at h0
      have := h0 k (List.mem_range.2 hk)
      rw [getD_tf (by omega)] at this
      simpa using this
    exact ⟨full listed hs hall, hR S μ a w (hend _ S hall hI) hE hS .refl⟩
  | succ fuel ih =>
    intro listed S μ a w R hs hf hI hE hS hR
    by_cases hall : ∀ k, k < ops.size → listed.getD k false = true
    · have hnil := full listed hs hall
      exact ⟨fun _ => hR S μ a w (hend _ S hall hI) hE hS .refl, fun i hi => by rw [hnil] at hi; cases hi⟩
    · have hne : Region.ready .any ops listed ≠ [] := by
        have hex : ∃ i, i < ops.size ∧ listed.getD i false = false := by
          rcases Classical.em (∃ k, k < ops.size ∧ listed.getD k false = false) with h | h
          · exact h
          · exact absurd (fun k hk => by
              cases hv : listed.getD k false with
              | true => rfl
              | false => exact absurd ⟨k, hk, hv⟩ h) hall
        obtain ⟨i, hi, hv, hle⟩ := least_false (p := fun k => listed.getD k false) ops.size hex
        obtain ⟨o, ho⟩ : ∃ o, ops[i]? = some o := ⟨_, Array.getElem?_eq_getElem hi⟩
        have : i ∈ Region.ready .any ops listed := ready_iff.2 ⟨o, ho, by rw [getD_tf (by omega)]; exact hv, fun e he hb => hle _ ((hB' i o ho).2 e he hb)⟩
        intro h0
        rw [h0] at this
        cases this
      refine ⟨fun h0 => absurd h0 hne, fun i hi => ?_⟩
      obtain ⟨o, ho, h1, h2⟩ := ready_iff.1 hi
      have hio := (Array.getElem?_eq_some_iff.1 ho).1
      have hX' : (fun j => (listed.setIfInBounds i true).getD j false) = upX (fun j => listed.getD j false) i := by
        funext j
        exact getD_set (by omega)
      unfold wpOp
      simp only [ho]
      have hg := (hB' i o ho).1
      rw [if_pos (by simp [Region.wanted, hg])]
      refine .inl (awOp_wp (hstep _ S i o hI ho (by rw [← getD_tf (by omega)]; exact h1) h2) hE hS fun v M' c μ' w' hK hv hS' hst => ?_)
      refine ih _ _ μ' _ w' R (by simpa using hs) (by have := left_lt hs hio h1; omega) (by rw [hX']; exact hK) (hE.put hst hv o.dst) (by cases o.dst <;> exact hS') ?_
      exact fun S'' μ'' a'' w'' q1 q2 q3 q4 => hR S'' μ'' a'' w'' q1 q2 q3 (hst.trans (by cases hd : o.dst <;> rw [hd] at q4 <;> exact q4))
theorem inv_region {S : St} {id : Nat} {Q : Ex → St → Prop} (hm : P.follows .mixedOrders = true) (hB : drawBack ops = true) (I : (Nat → Bool) → St → Prop) (h0 : I (fun _ => false) S)
    (hstep : ∀ X S k o, I X S → ops[k]? = some o → X k = false → (∀ e ∈ o.after.toList, Region.binds .any e = true → X e.on = true) → awOp P false b o S fun v M' => I (upX X k) (St.put { S with M := M' } o.dst v))
    (hend : ∀ X S, (∀ k, k < ops.size → X k = true) → I X S → Q .normal S) : AW P b (.region id ops true) Q S := by
  intro μ a w hE hS
  refine wp_region_any hm ?_
  have hw : ({ w with drawn := w.drawn + 1 } : World).heap = w.heap := rfl
  have hX : (fun j => (Array.replicate ops.size false).getD j false) = fun _ => false := by
    funext j
    simp [Array.getD_eq_getD_getElem?, Array.getElem?_replicate]
    split <;> rfl
  refine inv_any (Q := Q .normal) hB I hstep hend ops.size _ S μ a _ _ (by simp) ?_ (by rw [hX]; exact h0) hE (hS.heap hw) fun S' μ' a' w' q1 q2 q3 q4 => ⟨.normal, S', μ', rfl, q1, q2, q3, Step.trans (Step.heap (b := b) (M := S.M) (μ := μ) (w := w) (w' := { w with drawn := w.drawn + 1 }) rfl rfl rfl rfl) q4⟩
  unfold left_
  exact Nat.le_trans List.countP_le_length (by simp)
end
end Go.Proofs.Ytffbocbjmhkikaa
