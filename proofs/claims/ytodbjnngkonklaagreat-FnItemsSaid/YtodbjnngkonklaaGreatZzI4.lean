/- Parts of the proof, together: Regions that draw their order, where moves between temporaries may come late, behind stores. Regions that draw their order, by an invariant over what has been done. Regions that draw their order: the operations may be written in another order. No conditions. -/
import Derived.Test.YtodbjnngkonklaaGreatZzI3
namespace Go.Proofs.YtodbjnngkonklaaGreat
open Go.RowKit
set_option linter.unusedVariables false
set_option linter.unusedSimpArgs false

def lagF (o : Oper) : Option (Tmp × Option Nat) :=
  match o.op, o.guard with
  | .move (.tmp x), none => some (x, none)
  | .extract (.tmp x) i, none => some (x, some i)
  | _, _ => none
def lagV : Option Nat → Value → Option Value
  | none, v => some v
  | some i, v => tupAt v i
def drawLag (ops : Array Oper) (m : Nat) (dp : List (List Nat)) (F : List Nat) : Bool :=
  ((List.range ops.size).all fun k => decide (k < m) || (match ops[k]? with
    | none => false
    | some o => ((List.range k).all fun j => F.contains j || (dp.getD k []).contains j) && o.guard.isNone && (tmpsOf o).all fun t => F.all fun j => dstOf ops j != some t || (dp.getD k []).contains j)) &&
  F.all fun j => (match (ops[j]?).bind lagF with
    | none => false
    | some (x, _) => (dstOf ops j).isSome && (F.all fun i => dstOf ops i != some x) && (List.range ops.size).all fun k => decide (k < m ∨ k ≤ j) || (dstOf ops k != some x && dstOf ops k != dstOf ops j))
structure Lag (ops : Array Oper) (m : Nat) (dp : List (List Nat)) (F : List Nat) : Prop where
  tail : ∀ k, m ≤ k → k < ops.size → ∀ j, j < k → j ∉ F → (dp.getD k []).contains j = true
  guard : ∀ k o, m ≤ k → ops[k]? = some o → o.guard = none
  reads : ∀ k o, m ≤ k → ops[k]? = some o → ∀ t, .tmp t ∈ o.op.operands.toList → ∀ j, j ∈ F → dstOf ops j = some t → (dp.getD k []).contains j = true
  lag : ∀ j, j ∈ F → ∃ o x q d, ops[j]? = some o ∧ lagF o = some (x, q) ∧ o.dst = some d ∧ (∀ i, i ∈ F → dstOf ops i ≠ some x) ∧ ∀ k, m ≤ k → j < k → k < ops.size → dstOf ops k ≠ some x ∧ dstOf ops k ≠ some d
theorem drawLag_spec {ops : Array Oper} {m : Nat} {dp : List (List Nat)} {F : List Nat} (h : drawLag ops m dp F = true) : Lag ops m dp F := by
  unfold drawLag at h
  rw [Bool.and_eq_true] at h
  obtain ⟨h1, h2⟩ := h
  rw [List.all_eq_true] at h1 h2
  have at_ : ∀ k o, m ≤ k → ops[k]? = some o → ((∀ j, j ∈ List.range k → (F.contains j || (dp.getD k []).contains j) = true) ∧ o.guard.isNone = true) ∧ ∀ t, t ∈ tmpsOf o → ∀ j, j ∈ F → (dstOf ops j != some t || (dp.getD k []).contains j) = true := fun k o hk ho => by
    have := h1 k (List.mem_range.2 (Array.getElem?_eq_some_iff.1 ho).1)
    rw [ho, Bool.or_eq_true] at this
    rcases this with h | h
    · have := of_decide_eq_true h; exact absurd this (by omega)
    · simp only [Bool.and_eq_true, List.all_eq_true] at h
      exact h
  refine ⟨fun k hm hk j hj hF => ?_, fun k o hk ho => ?_, fun k o hk ho t ht j hj hd => ?_, fun j hj => ?_⟩
  · obtain ⟨o, ho⟩ : ∃ o, ops[k]? = some o := ⟨_, Array.getElem?_eq_getElem hk⟩
    have := (at_ k o hm ho).1.1 j (List.mem_range.2 hj)
    rw [Bool.or_eq_true] at this
    rcases this with h | h
    · exact absurd (by simpa using h) hF
    · exact h
  · have := (at_ k o hk ho).1.2
    cases hg : o.guard with
    | none => rfl
    | some g => rw [hg] at this; cases this
  · have := (at_ k o hk ho).2 t (List.mem_filterMap.2 ⟨_, ht, rfl⟩) j hj
    simpa [hd] using this
  · have h4 := h2 j hj
    cases hb : (ops[j]?).bind lagF with
    | none => rw [hb] at h4; cases h4
    | some xq =>
      obtain ⟨x, q⟩ := xq
      rw [hb] at h4
      obtain ⟨o, ho, hl⟩ := Option.bind_eq_some_iff.1 hb
      simp only [Bool.and_eq_true, List.all_eq_true] at h4
      obtain ⟨⟨h5, h6⟩, h7⟩ := h4
      have hd : dstOf ops j = o.dst := by simp [dstOf, ho]
      rw [hd] at h5 h7
      obtain ⟨d, hdd⟩ := Option.isSome_iff_exists.1 h5
      refine ⟨o, x, q, d, ho, hl, hdd, fun i hi => by simpa using h6 i hi, fun k hm hjk hk => ?_⟩
      have := h7 k (List.mem_range.2 hk)
      rw [Bool.or_eq_true] at this
      rcases this with h | h
      · have := of_decide_eq_true h; omega
      · rw [hdd] at h
        simpa using h
def keepU (ops : Array Oper) (F : List Nat) (listed : Array Bool) (t : Nat) : Bool := F.all fun j => listed.getD j false || dstOf ops j != some t
theorem keepU_iff {ops : Array Oper} {F : List Nat} {listed : Array Bool} {t : Nat} : keepU ops F listed t = true ↔ ∀ j, j ∈ F → listed.getD j false = true ∨ dstOf ops j ≠ some t := by
  unfold keepU
  rw [List.all_eq_true]
  constructor
  · intro h j hj
    have := h j hj
    rw [Bool.or_eq_true] at this
    rcases this with h | h
    · exact .inl h
    · exact .inr (by simpa using h)
  · intro h j hj
    rw [Bool.or_eq_true]
    rcases h j hj with h | h
    · exact .inl h
    · exact .inr (by simpa using h)
theorem least_false {p : Nat → Bool} : ∀ (N : Nat), (∃ i, i < N ∧ p i = false) → ∃ i, i < N ∧ p i = false ∧ ∀ j, j < i → p j = true
  | 0, ⟨i, hi, _⟩ => by omega
  | N + 1, ⟨i, hi, hp⟩ => by
    by_cases h : ∃ i, i < N ∧ p i = false
    · obtain ⟨i, h1, h2, h3⟩ := least_false N h
      exact ⟨i, by omega, h2, h3⟩
    · have hiN : i = N := by
        rcases Nat.lt_or_ge i N with h' | h'
        · exact absurd ⟨i, h', hp⟩ h
        · omega
      subst hiN
      refine ⟨i, hi, hp, fun j hj => ?_⟩
      cases hv : p j with
      | true => rfl
      | false => exact absurd ⟨j, hj, hv⟩ h
theorem maskP_full : ∀ (A : List (List Slot)) (j : Nat) (p : Nat → Bool), (∀ i, i < A.length → p (j + i) = true ∨ A.getD i [] = []) → maskP A j p = A.flatten
  | [], _, _, _ => rfl
  | s :: A, j, p, h => by
    simp only [maskP, List.flatten_cons]
    rw [maskP_full A (j + 1) p fun i hi => by have := h (i + 1) (by simpa using hi); simpa [Nat.add_assoc, Nat.add_comm 1 i] using this]
    rcases h 0 (by simp) with h0 | h0
    · rw [if_pos (by simpa using h0)]
    · have : s = [] := by simpa using h0
      subst this
      simp

section
variable {P : Program} {ops : Array Oper} {dp : List (List Nat)} {n m b : Nat} {F : List Nat}
theorem lag_lt (hL : Lag ops m dp F) {j : Nat} (hj : j ∈ F) : j < ops.size := by
  obtain ⟨o, -, -, -, ho, -⟩ := hL.lag j hj
  exact (Array.getElem?_eq_some_iff.1 ho).1
theorem lag_op {o : Oper} {x : Tmp} {q : Option Nat} {S : St} {u v : Value} (hl : lagF o = some (x, q)) (hu : S.get x = some u) (hv : lagV q u = some v) : awOp P false b o S (fun v' M' => v' = v ∧ M' = S.M) := by
  unfold lagF at hl
  split at hl
  · rename_i h1 h2
    injection hl with hl
    injection hl with e1 e2
    subst e1; subst e2
    injection hv with hv
    subst hv
    unfold awOp
    rw [h1]
    exact ow_iff.2 ⟨u, hu, rfl, rfl⟩
  · rename_i h1 h2
    injection hl with hl
    injection hl with e1 e2
    subst e1; subst e2
    unfold awOp
    rw [h1]
    exact ow_iff.2 ⟨u, hu, ow_iff.2 ⟨v, hv, rfl, rfl⟩⟩
  · cases hl
theorem lag_inv {d : Bool} {o : Oper} {x : Tmp} {q : Option Nat} {S : St} {K : Value → Mem → Prop} (hl : lagF o = some (x, q)) (h : awOp P d b o S K) : o.guard = none ∧ .tmp x ∈ o.op.operands.toList ∧ ∃ u v, S.get x = some u ∧ lagV q u = some v ∧ K v S.M := by
  unfold lagF at hl
  split at hl
  · rename_i h1 h2
    injection hl with hl
    injection hl with e1 e2
    subst e1; subst e2
    unfold awOp at h
    rw [h1] at h ⊢
    obtain ⟨u, hu, hK⟩ := ow_iff.1 h
    exact ⟨h2, by simp [Op.operands], u, u, hu, rfl, hK⟩
  · rename_i h1 h2
    injection hl with hl
    injection hl with e1 e2
    subst e1; subst e2
    unfold awOp at h
    rw [h1] at h ⊢
    obtain ⟨u, hu, h⟩ := ow_iff.1 h
    obtain ⟨v, hv, hK⟩ := ow_iff.1 h
    exact ⟨h2, by simp [Op.operands], u, v, hu, hv, hK⟩
  · cases hl
/-- The ordered tail, beside moves that are still to be done. -/
theorem tail2_any (hO : DrawOk ops m dp) (hL : Lag ops m dp F) {Q : St → Prop} : ∀ (N fuel k : Nat) (listed : Array Bool) (S : St) (μ : Map) (a : Act) (w : World) (R : Exit → Act → World → Prop), fuel + (ops.size - k) ≤ N → (∀ j, j ∈ F → k ≤ j → listed.getD j false = false) → m ≤ k → k ≤ ops.size → listed.size = ops.size → (∀ i, i < ops.size → i ∉ F → listed.getD i false = decide (i < k)) → left_ ops listed ≤ fuel → (∀ k, listed.getD k false = true → ∀ j, (dp.getD k []).contains j = true → listed.getD j false = true) →
    awOps P b ops Q (ops.toList.drop k) S → Env ⟨S.n, S.T.filter fun e => keepU ops F listed e.1, S.M⟩ μ a → Sim S.M μ w →
    (∀ j, j ∈ F → j < k → listed.getD j false = false → ∃ o x q d u v, ops[j]? = some o ∧ lagF o = some (x, q) ∧ o.dst = some d ∧ S.get x = some u ∧ lagV q u = some v ∧ look S.T d = some v) →
    (∀ S' μ' a' w', Q S' → Env S' μ' a' → Sim S'.M μ' w' → Step b S.M μ w S'.M μ' w' → R .normal a' w') → wpAny P .any ops R fuel listed a w := by
  intro N
  induction N with
  | zero =>
    intro fuel k listed S μ a w R hN hge0 hm hk hs hl hf hcl h hE hS hund hR
    obtain rfl : fuel = 0 := by omega
    have hkF : ¬ (k < ops.size ∧ k ∈ F) := fun h => by omega
    have hall : ∀ i, i < ops.size → listed.getD i false = true := by
      unfold left_ at hf
      have h0 : (List.range ops.size).countP (fun i => !listed.getD i true) = 0 := by omega
      rw [List.countP_eq_zero] at h0
      intro i hi
      have := h0 i (List.mem_range.2 hi)
      rw [getD_tf (by omega)] at this
      simpa using this
    have hke : k = ops.size := by
      rcases Nat.lt_or_ge k ops.size with h' | h'
      · have h1 := hl k h' (fun hF => hkF ⟨h', hF⟩)
        rw [hall k h'] at h1
        simp at h1
      · omega
    subst hke
    rw [List.drop_of_length_le (by simp)] at h
    have hE' : Env S μ a := ⟨hE.size, fun t v hv ht => hE.val t v (by rw [look_filter, if_pos (keepU_iff.2 fun j hj => .inl (hall j (lag_lt hL hj)))]; exact hv) ht, hE.defers⟩
    refine ⟨?_, hR S μ a w h hE' hS .refl⟩
    apply List.eq_nil_iff_forall_not_mem.2
    intro i hi
    obtain ⟨o, ho, h1, -⟩ := ready_iff.1 hi
    have hio := (Array.getElem?_eq_some_iff.1 ho).1
    rw [getD_tf (by omega), hall i hio] at h1
    cases h1
  | succ N ih =>
    intro fuel k listed S μ a w R hN hge0 hm hk hs hl hf hcl h hE hS hund hR
    by_cases hkF : k < ops.size ∧ k ∈ F
    · obtain ⟨hks, hkf⟩ := hkF
      obtain ⟨o, x, q, d, ho, hlag, hd, hxF, hk2⟩ := hL.lag k hkf
      have hdrop : ops.toList.drop k = o :: ops.toList.drop (k + 1) := by
        rw [List.drop_eq_getElem_cons (by simpa using hks)]
        congr 1
        have := (Array.getElem?_eq_some_iff.1 ho).2
        simpa using this
      rw [hdrop] at h
      have hg := hL.guard k o hm ho
      simp only [awOps, hg] at h
      obtain ⟨-, -, u, v, hu, hv, hK⟩ := lag_inv hlag h
      have hkl := hge0 k hkf (Nat.le_refl _)
      have hdk : dstOf ops k = some d := by simp [dstOf, ho, hd]
      rw [hd] at hK
      have hxd : x ≠ d := fun e => hxF k hkf (by rw [hdk, e])
      have hkd : keepU ops F listed d = false := by
        cases hv : keepU ops F listed d with
        | false => rfl
        | true =>
          rcases keepU_iff.1 hv k hkf with h' | h'
          · rw [hkl] at h'; cases h'
          · exact absurd hdk h'
      have hput : ∀ y, y ≠ d → ∀ {u' : Value}, S.get y = some u' → (St.put S (some d) v).get y = some u' := by
        intro y hy u' hyu
        unfold St.get at hyu ⊢
        simp only [St.put, look]
        split at hyu
        · rename_i hyn
          rw [if_pos hyn, if_neg (fun e => hy (by omega))]
          exact hyu
        · cases hyu
      refine ih fuel (k + 1) listed (St.put S (some d) v) μ a w R (by omega) (fun j hj hkj => hge0 j hj (by omega)) (by omega) (by omega) hs (fun i hi hiF => ?_) hf hcl hK ?_ hS (fun j hj hjk hjl => ?_) hR
      · rw [hl i hi hiF]
        have : i ≠ k := fun e => hiF (by rw [e]; exact hkf)
        congr 1
        simp only [eq_iff_iff]
        omega
      · have : (St.put S (some d) v).T.filter (fun e => keepU ops F listed e.1) = S.T.filter (fun e => keepU ops F listed e.1) := by
          simp [St.put, hkd]
        rw [this]
        exact hE
      · by_cases hjk2 : j = k
        · subst hjk2
          exact ⟨o, x, q, d, u, v, ho, hlag, hd, hput x hxd hu, hv, by simp [St.put, look]⟩
        · obtain ⟨o', x', q', d', u', v', ho', hlag', hd', hu', hv', hdv'⟩ := hund j hj (by omega) hjl
          obtain ⟨o2, x2, q2, d2, ho2, hlag2, hd2, -, hk3⟩ := hL.lag j hj
          rw [ho'] at ho2
          injection ho2 with ho2
          subst ho2
          rw [hlag'] at hlag2
          injection hlag2 with hlag2
          injection hlag2 with e1 e2
          subst e1
          rw [hd'] at hd2
          injection hd2 with hd2
          subst hd2
          obtain ⟨k1, k2⟩ := hk3 k hm (by omega) hks
          rw [hdk] at k1 k2
          refine ⟨o', x', q', d', u', v', ho', hlag', hd', hput x' (fun e => k1 (by rw [e])) hu', hv', ?_⟩
          simp only [St.put, look]
          rw [if_neg (fun e => k2 (by rw [e]))]
          exact hdv'
    cases fuel with
    | zero =>
      have hall : ∀ i, i < ops.size → listed.getD i false = true := by
        unfold left_ at hf
        have h0 : (List.range ops.size).countP (fun i => !listed.getD i true) = 0 := by omega
        rw [List.countP_eq_zero] at h0
        intro i hi
        have := h0 i (List.mem_range.2 hi)
        rw [getD_tf (by omega)] at this
        simpa using this
      have hke : k = ops.size := by
        rcases Nat.lt_or_ge k ops.size with h' | h'
        · have h1 := hl k h' (fun hF => hkF ⟨h', hF⟩)
          rw [hall k h'] at h1
          simp at h1
        · omega
      subst hke
      rw [List.drop_of_length_le (by simp)] at h
      have hE' : Env S μ a := ⟨hE.size, fun t v hv ht => hE.val t v (by rw [look_filter, if_pos (keepU_iff.2 fun j hj => .inl (hall j (lag_lt hL hj)))]; exact hv) ht, hE.defers⟩
      refine ⟨?_, hR S μ a w h hE' hS .refl⟩
      apply List.eq_nil_iff_forall_not_mem.2
      intro i hi
      obtain ⟨o, ho, h1, -⟩ := ready_iff.1 hi
      have hio := (Array.getElem?_eq_some_iff.1 ho).1
      rw [getD_tf (by omega), hall i hio] at h1
      cases h1
    | succ fuel =>
      by_cases hall : ∀ i, i < ops.size → listed.getD i false = true
      · have hke : k = ops.size := by
          rcases Nat.lt_or_ge k ops.size with h' | h'
          · have h1 := hl k h' (fun hF => hkF ⟨h', hF⟩)
            rw [hall k h'] at h1
            simp at h1
          · omega
        subst hke
        rw [List.drop_of_length_le (by simp)] at h
        have hE' : Env S μ a := ⟨hE.size, fun t v hv ht => hE.val t v (by rw [look_filter, if_pos (keepU_iff.2 fun j hj => .inl (hall j (lag_lt hL hj)))]; exact hv) ht, hE.defers⟩
        refine ⟨fun _ => hR S μ a w h hE' hS .refl, fun i hi => ?_⟩
        obtain ⟨o, ho, h1, -⟩ := ready_iff.1 hi
        have hio := (Array.getElem?_eq_some_iff.1 ho).1
        rw [getD_tf (by omega), hall i hio] at h1
        cases h1
      · obtain ⟨i0, hi0, hp0, hlow⟩ := least_false (p := fun i => listed.getD i false) ops.size (by
          rcases Classical.em (∃ i, i < ops.size ∧ listed.getD i false = false) with h' | h'
          · exact h'
          · exact absurd (fun i hi => by
              cases hv : listed.getD i false with
              | true => rfl
              | false => exact absurd ⟨i, hi, hv⟩ h') hall)
        have hne : Region.ready .any ops listed ≠ [] := by
          intro h0
          obtain ⟨o, ho⟩ : ∃ o, ops[i0]? = some o := ⟨_, Array.getElem?_eq_getElem hi0⟩
          have : i0 ∈ Region.ready .any ops listed := ready_iff.2 ⟨o, ho, by rw [getD_tf (by omega)]; exact hp0, fun e he hb => hlow _ (hO.back i0 o ho e he hb)⟩
          rw [h0] at this
          cases this
        refine ⟨fun h0 => absurd h0 hne, fun i hi => ?_⟩
        obtain ⟨o, ho, h1, h2⟩ := ready_iff.1 hi
        have hio := (Array.getElem?_eq_some_iff.1 ho).1
        have h1' : listed.getD i false = false := by rw [← getD_tf (by omega)]; exact h1
        have hX' : ∀ j, (listed.setIfInBounds i true).getD j false = if j = i then true else listed.getD j false := fun j => getD_set (by omega)
        have hlt' := left_lt hs hio h1
        have hdd : ∀ j, (dp.getD i []).contains j = true → listed.getD j false = true := by
          intro j hj
          obtain ⟨-, e, he, hb, he2⟩ := hO.dep i o ho j hj
          rcases he2 with he2 | he2
          · rw [← he2]; exact h2 e he hb
          · exact hcl e.on (h2 e he hb) j he2
        have hcl' : ∀ k, (listed.setIfInBounds i true).getD k false = true → ∀ j, (dp.getD k []).contains j = true → (listed.setIfInBounds i true).getD j false = true := by
          intro k hk j hj
          rw [hX'] at hk ⊢
          by_cases hji : j = i
          · rw [if_pos hji]
          · rw [if_neg hji]
            by_cases hki : k = i
            · subst hki; exact hdd j hj
            · rw [if_neg hki] at hk; exact hcl k hk j hj
        unfold wpOp
        simp only [ho]
        by_cases hiF : i ∈ F
        · have hik : i < k := by
            rcases Nat.lt_or_ge i k with h' | hge'
            · exact h'
            · exfalso
              have hkF2 : k ∉ F := fun hF => hkF ⟨by omega, hF⟩
              have hne' : i ≠ k := fun e => hkF2 (by rw [← e]; exact hiF)
              have := hdd k (hL.tail i (by omega) hio k (by omega) hkF2)
              rw [hl k (by omega) hkF2] at this
              simp at this
          obtain ⟨o', x, q, d, u, v, ho', hlag, hd, hu, hv, hdv⟩ := hund i hiF hik h1'
          rw [ho] at ho'
          injection ho' with ho'
          subst ho'
          obtain ⟨_, x', _, d', ho2, hlag2, hd2, hxF, -⟩ := hL.lag i hiF
          rw [ho] at ho2
          injection ho2 with ho2
          subst ho2
          rw [hlag] at hlag2
          injection hlag2 with hlag2
          injection hlag2 with e1 e2
          subst e1
          have hkx : keepU ops F listed x = true := keepU_iff.2 fun j hj => .inr (hxF j hj)
          have hget : (⟨S.n, S.T.filter fun e => keepU ops F listed e.1, S.M⟩ : St).get x = some u := by
            unfold St.get at hu ⊢
            simp only at hu ⊢
            rw [look_filter, if_pos hkx]
            exact hu
          have hop := lag_op (P := P) (b := b) hlag hget hv
          have hg := (lag_inv hlag hop).1
          rw [if_pos (by simp [Region.wanted, hg])]
          refine .inl (awOp_wp hop hE hS fun v' M' c μ' w' hK hvr hS' hst => ?_)
          obtain ⟨rfl, rfl⟩ := hK
          have hE2 := hE.put hst hvr o.dst
          rw [hd] at hE2 ⊢
          refine ih fuel k _ S μ' _ w' R (by omega) (fun j hj hkj => by rw [hX', if_neg (by omega)]; exact hge0 j hj hkj) hm hk (by simpa using hs) (fun j hj hjF => by rw [hX', if_neg (show ¬ j = i from fun e => hjF (by rw [e]; exact hiF))]; exact hl j hj hjF) (by omega) hcl' h ⟨hE2.size, fun t v2 hv2 ht => ?_, hE2.defers⟩ hS' (fun j hj hjk hjl => ?_) fun S'' μ'' a'' w'' q1 q2 q3 q4 => hR S'' μ'' a'' w'' q1 q2 q3 (hst.trans q4)
          · rw [look_filter] at hv2
            split at hv2
            · rename_i hkt
              by_cases htd : t = d
              · subst htd
                rw [hdv] at hv2
                injection hv2 with hv2
                subst hv2
                exact hE2.val t v' (by simp [St.put, look]) ht
              · refine hE2.val t v2 ?_ ht
                simp only [St.put, look]
                rw [if_neg htd, look_filter, if_pos]
                · exact hv2
                · refine keepU_iff.2 fun j hj => ?_
                  rcases keepU_iff.1 hkt j hj with h' | h'
                  · rw [hX'] at h'
                    by_cases hji : j = i
                    · subst hji
                      right
                      have : dstOf ops j = some d := by simp [dstOf, ho, hd]
                      rw [this]
                      intro e
                      injection e with e
                      exact htd e.symm
                    · rw [if_neg hji] at h'; exact .inl h'
                  · exact .inr h'
            · cases hv2
          · rw [hX'] at hjl
            by_cases hji : j = i
            · rw [if_pos hji] at hjl; cases hjl
            · rw [if_neg hji] at hjl; exact hund j hj hjk hjl
        · have hge : k ≤ i := by
            have := hl i hio hiF
            rw [h1'] at this
            simpa using this
          have hik : i = k := by
            rcases Nat.lt_or_ge k i with hlt | hge'
            · exfalso
              have hkF : k ∉ F := fun hF => hkF ⟨by omega, hF⟩
              have hc := hL.tail i (by omega) hio k hlt hkF
              have := hdd k hc
              rw [hl k (by omega) hkF] at this
              simp at this
            · omega
          subst hik
          have hdrop : ops.toList.drop i = o :: ops.toList.drop (i + 1) := by
            rw [List.drop_eq_getElem_cons (by simpa using hio)]
            congr 1
            have := (Array.getElem?_eq_some_iff.1 ho).2
            simpa using this
          rw [hdrop] at h
          have hg := hL.guard i o hm ho
          simp only [awOps, hg] at h
          rw [if_pos (by simp [Region.wanted, hg])]
          have hdone : ∀ j, (dp.getD i []).contains j = true → j ∈ F → listed.getD j false = true := fun j hj _ => hdd j hj
          have h' : awOp P false b o ⟨S.n, S.T.filter fun e => keepU ops F listed e.1, S.M⟩ fun v M' => awOps P b ops Q (ops.toList.drop (i + 1)) (St.put { S with M := M' } o.dst v) := by
            refine awOp_congr (S := S) rfl (fun x hx => ?_) h
            cases x with
            | tmp t =>
              simp only [St.ev, St.get]
              split
              · rw [look_filter, if_pos]
                refine keepU_iff.2 fun j hj => ?_
                by_cases hjt : dstOf ops j = some t
                · exact .inl (hdone j (hL.reads i o hm ho t hx j hj hjt) hj)
                · exact .inr hjt
              · rfl
            | _ => rfl
          have hkeep : ∀ t, keepU ops F (listed.setIfInBounds i true) t = keepU ops F listed t := by
            intro t
            have : ∀ j, j ∈ F → (listed.setIfInBounds i true).getD j false = listed.getD j false := fun j hj => by rw [hX', if_neg (show ¬ j = i from fun e => hiF (by rw [← e]; exact hj))]
            apply Bool.eq_iff_iff.2
            rw [keepU_iff, keepU_iff]
            constructor
            · intro hh j hj; rw [← this j hj]; exact hh j hj
            · intro hh j hj; rw [this j hj]; exact hh j hj
          refine .inl (awOp_wp h' hE hS fun v M' c μ' w' hK hvr hS' hst => ?_)
          have hE2 := hE.put hst hvr o.dst
          refine ih fuel (i + 1) _ _ μ' _ w' R (by omega) (fun j hj hkj => by rw [hX', if_neg (by omega)]; exact hge0 j hj (by omega)) (by omega) (by omega) (by simpa using hs) (fun j hj hjF => ?_) (by omega) hcl' hK ⟨by have := hE2.size; cases hd : o.dst <;> rw [hd] at this <;> exact this, fun t v2 hv2 ht => ?_, hE2.defers⟩ (by cases o.dst <;> exact hS') (fun j hj hjk hjl => ?_)
            fun S'' μ'' a'' w'' q1 q2 q3 q4 => hR S'' μ'' a'' w'' q1 q2 q3 (hst.trans (by cases hd : o.dst <;> rw [hd] at q4 <;> exact q4))
          · rw [hX']
            by_cases hji : j = i
            · rw [if_pos hji]; simp; omega
            · rw [if_neg hji, hl j hj hjF]
              congr 1
              simp only [eq_iff_iff]
              omega
          · rw [look_filter, hkeep] at hv2
            cases hd : o.dst with
            | none =>
              rw [hd] at hv2 hE2 ht
              simp only [St.put] at hv2 ht
              split at hv2
              · rename_i hkt
                obtain ⟨c', hc', hr⟩ := hE2.val t v2 (by simp only [St.put]; rw [look_filter, if_pos hkt]; exact hv2) ht
                exact ⟨c', hc', hr⟩
              · cases hv2
            | some d =>
              rw [hd] at hv2 hE2 ht
              simp only [St.put, look] at hv2 ht
              split at hv2
              · rename_i hkt
                by_cases htd : t = d
                · subst htd
                  rw [if_pos rfl] at hv2
                  obtain ⟨c', hc', hr⟩ := hE2.val t v (by simp [St.put, look]) ht
                  injection hv2 with hv2
                  subst hv2
                  exact ⟨c', hc', hr⟩
                · rw [if_neg htd] at hv2
                  obtain ⟨c', hc', hr⟩ := hE2.val t v2 (by simp only [St.put, look]; rw [if_neg htd, look_filter, if_pos hkt]; exact hv2) ht
                  exact ⟨c', hc', hr⟩
              · cases hv2
          · have hji : ¬ j = i := fun e => hiF (by rw [← e]; exact hj)
            rw [hX', if_neg hji] at hjl
            obtain ⟨o', x, q, d, u, v', ho', hlag, hd, hu, hv, hdv⟩ := hund j hj (by omega) hjl
            obtain ⟨_, x', _, d', ho2, hlag2, hd2, -, hk2⟩ := hL.lag j hj
            rw [ho'] at ho2
            injection ho2 with ho2
            subst ho2
            rw [hlag] at hlag2
            injection hlag2 with hlag2
            injection hlag2 with e1 e2
            subst e1
            rw [hd] at hd2
            injection hd2 with hd2
            subst hd2
            obtain ⟨k1, k2⟩ := hk2 i hm (by omega) hio
            have hdi : dstOf ops i = o.dst := by simp [dstOf, ho]
            rw [hdi] at k1 k2
            refine ⟨o', x, q, d, u, v', ho', hlag, hd, ?_, hv, ?_⟩
            · cases hdd : o.dst with
              | none => exact hu
              | some z =>
                rw [hdd] at k1
                unfold St.get at hu ⊢
                simp only [St.put, look]
                split at hu
                · rename_i hxn
                  rw [if_pos hxn, if_neg (fun e => k1 (by rw [e]))]
                  exact hu
                · cases hu
            · cases hdd : o.dst with
              | none => exact hdv
              | some z =>
                rw [hdd] at k2
                simp only [St.put, look]
                rw [if_neg (fun e => k2 (by rw [e]))]
                exact hdv
variable {M0 : Mem} {μ0 : Map} {w0 : World} {T : Nat → List (Nat × Value)} {vs : Nat → Value} {Ns : List (List Slot)}
theorem lag_out (hO : DrawOk ops m dp) (hU : Outs P ops dp n M0 m T vs Ns) (hL : Lag ops m dp F) {j : Nat} (hjm : j < m) (hj : j ∈ F) : Ns.getD j [] = [] ∧ ∃ o x q d u, ops[j]? = some o ∧ lagF o = some (x, q) ∧ o.dst = some d ∧ (∀ M, (⟨n, T m, M⟩ : St).get x = some u) ∧ lagV q u = some (vs j) ∧ look (T m) d = some (vs j) := by
  obtain ⟨o, x, q, d, ho, hlag, hd, -⟩ := hL.lag j hj
  have hout := hU.out j o hjm ho
  simp only at hout
  have hg : o.guard = none := by
    unfold lagF at hlag
    split at hlag
    · assumption
    · assumption
    · cases hlag
  unfold awG at hout
  rw [hg] at hout
  obtain ⟨M', hN, hop⟩ := hout
  obtain ⟨-, hx, u, v, hu, hv, rfl, hM⟩ := lag_inv hlag (hop (fun v M'' => v = vs j ∧ M'' = M') ⟨rfl, rfl⟩)
  have hN2 : Ns.getD j [] = [] := by
    rw [List.getD_eq_getElem?_getD, hN, ← hM]
    simp
  obtain ⟨a1, a2⟩ := look_T hO hU j (by omega)
  obtain ⟨b1, b2⟩ := look_T hO hU m (Nat.le_refl _)
  have hxm : look (T m) x = look (T j) x := by
    by_cases hex : ∃ i, i < m ∧ dstOf ops i = some x
    · obtain ⟨i, hi, hix⟩ := hex
      have hij := (hO.dep j o ho i (hO.reads j o hjm ho x hx i hi hix)).1
      rw [b1 i x hi hix, a1 i x hij hix]
    · rw [b2 x fun i hi e => hex ⟨i, hi, e⟩, a2 x fun i hi e => hex ⟨i, by omega, e⟩]
  refine ⟨hN2, o, x, q, d, u, ho, hlag, hd, fun M => ?_, hv, b1 j d hjm (by simp [dstOf, ho, hd])⟩
  unfold St.get at hu ⊢
  simp only at hu ⊢
  rw [hxm]
  exact hu
/-- The stable part, in any order, and the tail. -/
theorem stage2_any (hO : DrawOk ops m dp) (hL : Lag ops m dp F) (hU : Outs P ops dp n M0 m T vs Ns) {Q : St → Prop} {R : Exit → Act → World → Prop} (hQ : awOps P b ops Q (ops.toList.drop m) ⟨n, T m, M0 ++ Ns.flatten⟩)
    (hR : ∀ S' μ' a' w', Q S' → Env S' μ' a' → Sim S'.M μ' w' → Step b M0 μ0 w0 S'.M μ' w' → R .normal a' w') :
    ∀ (fuel : Nat) (listed : Array Bool) (μ : Map) (a : Act) (w : World), listed.size = ops.size → (∀ k, listed.getD k false = true → ∀ j, (dp.getD k []).contains j = true → listed.getD j false = true) → (∀ k, m ≤ k → listed.getD k false = false) →
      Inv ops dp n m b M0 μ0 w0 T vs Ns (fun j => listed.getD j false) μ a w → left_ ops listed ≤ fuel → wpAny P .any ops R fuel listed a w := by
  have hlen := hU.len
  -- when all stable operations are done
  have done : ∀ (fuel : Nat) (listed : Array Bool) (μ : Map) (a : Act) (w : World), listed.size = ops.size → (∀ k, m ≤ k → listed.getD k false = false) → (∀ k, k < m → k ∉ F → listed.getD k false = true) →
      (∀ k, listed.getD k false = true → ∀ j, (dp.getD k []).contains j = true → listed.getD j false = true) →
      Inv ops dp n m b M0 μ0 w0 T vs Ns (fun j => listed.getD j false) μ a w → left_ ops listed ≤ fuel → wpAny P .any ops R fuel listed a w := by
    intro fuel listed μ a w hs hge hlt hcl hI hf
    have eA : MA M0 Ns (fun j => listed.getD j false) = M0 ++ Ns.flatten := by
      unfold MA
      rw [maskP_full _ _ _ fun i h2 => ?_]
      rw [Nat.zero_add]
      by_cases hiF : i ∈ F
      · exact .inr (lag_out hO hU hL (by omega) hiF).1
      · exact .inl (hlt i (by omega) hiF)
    have hle := hO.le
    obtain ⟨l1, l2⟩ := look_T hO hU m (Nat.le_refl _)
    refine tail2_any hO hL (fuel + (ops.size - m)) fuel m listed ⟨n, T m, M0 ++ Ns.flatten⟩ μ a w R (Nat.le_refl _) (fun j _ hmj => hge j hmj) (Nat.le_refl _) hle hs (fun i hi hiF => ?_) hf hcl hQ ⟨hI.size, fun t v hv ht => ?_, hI.defers⟩ (by rw [← eA]; exact hI.sim) (fun j hj hjm hjl => ?_)
      fun S' μ' a' w' q1 q2 q3 q4 => hR S' μ' a' w' q1 q2 q3 ((by rw [← eA] at q4; exact hI.step.trans q4))
    · by_cases him : i < m
      · rw [hlt i him hiF]; simp [him]
      · rw [hge i (by omega)]; simp [him]
    · simp only at hv ht
      rw [look_filter] at hv
      split at hv
      · rename_i hkt
        by_cases hex : ∃ j, j < m ∧ dstOf ops j = some t
        · obtain ⟨j, hj, hjt⟩ := hex
          have hjl : listed.getD j false = true := by
            by_cases hjF : j ∈ F
            · rcases keepU_iff.1 hkt j hjF with h | h
              · exact h
              · exact absurd hjt h
            · exact hlt j hj hjF
          rw [l1 j t hj hjt] at hv
          injection hv with hv
          subst hv
          obtain ⟨c, h1, h2⟩ := hI.e1 j t (by omega) hjl hjt ht
          refine ⟨c, h1, ?_⟩
          have := h2.sub (ME_subA (X := fun j => listed.getD j false) (by omega) hjl (hcl j hjl))
          rw [eA] at this
          exact this
        · have hall : ∀ j, j < m → dstOf ops j ≠ some t := fun j hj e => hex ⟨j, hj, e⟩
          rw [l2 t hall] at hv
          obtain ⟨c, h1, h2⟩ := hI.e0 t v hv ht hall
          exact ⟨c, h1, h2.sub sub0⟩
      · cases hv
    · obtain ⟨-, o, x, q, d, u, h1, h2, h3, h4, h5, h6⟩ := lag_out hO hU hL hjm hj
      exact ⟨o, x, q, d, u, vs j, h1, h2, h3, h4 _, h5, h6⟩
  intro fuel
  induction fuel with
  | zero =>
    intro listed μ a w hs hcl hge hI hf
    refine done 0 listed μ a w hs hge (fun k hk _ => ?_) hcl hI hf
    have hle := hO.le
    unfold left_ at hf
    have h0 : (List.range ops.size).countP (fun i => !listed.getD i true) = 0 := by omega
    rw [List.countP_eq_zero] at h0
    have := h0 k (List.mem_range.2 (by omega))
    rw [getD_tf (by omega)] at this
    simpa using this
  | succ fuel ih =>
    intro listed μ a w hs hcl hge hI hf
    by_cases hall : ∀ k, k < m → k ∉ F → listed.getD k false = true
    · exact done (fuel + 1) listed μ a w hs hge hall hcl hI hf
    · have hle := hO.le
      have hex : ∃ k, k < m ∧ k ∉ F ∧ listed.getD k false = false := by
        rcases Classical.em (∃ k, k < m ∧ k ∉ F ∧ listed.getD k false = false) with h | h
        · exact h
        · exact absurd (fun k hk hkF => by
            cases hv : listed.getD k false with
            | true => rfl
            | false => exact absurd ⟨k, hk, hkF, hv⟩ h) hall
      -- the least one that is not done is ready
      have hne : Region.ready .any ops listed ≠ [] := by
        have least : ∀ N k, k ≤ N → k < m → listed.getD k false = false → Region.ready .any ops listed ≠ [] := by
          intro N
          induction N with
          | zero =>
            intro k hk hkm hkl h0
            obtain rfl : k = 0 := by omega
            obtain ⟨o, ho⟩ : ∃ o, ops[0]? = some o := ⟨_, Array.getElem?_eq_getElem (by omega)⟩
            have : 0 ∈ Region.ready .any ops listed := ready_iff.2 ⟨o, ho, by rw [getD_tf (by omega)]; exact hkl, fun e he hb => by have := hO.back 0 o ho e he hb; omega⟩
            rw [h0] at this
            cases this
          | succ N ihN =>
            intro k hk hkm hkl h0
            by_cases hall : ∀ j, j < k → listed.getD j false = true
            · obtain ⟨o, ho⟩ : ∃ o, ops[k]? = some o := ⟨_, Array.getElem?_eq_getElem (by omega)⟩
              have : k ∈ Region.ready .any ops listed := ready_iff.2 ⟨o, ho, by rw [getD_tf (by omega)]; exact hkl, fun e he hb => hall _ (hO.back k o ho e he hb)⟩
              rw [h0] at this
              cases this
            · obtain ⟨j, hj⟩ := Classical.not_forall.1 hall
              have hjk : j < k := by
                rcases Nat.lt_or_ge j k with h | h
                · exact h
                · exact absurd (fun h' => by omega) hj
              refine ihN j (by omega) (by omega) ?_ h0
              cases hv : listed.getD j false with
              | false => rfl
              | true => exact absurd (fun _ => hv) hj
        obtain ⟨k, h1, _, h2⟩ := hex
        exact least k k (Nat.le_refl _) h1 h2
      refine ⟨fun h0 => absurd h0 hne, fun i hi => ?_⟩
      obtain ⟨o, ho, h1, h2⟩ := ready_iff.1 hi
      have hio := (Array.getElem?_eq_some_iff.1 ho).1
      have hd : ∀ j, (dp.getD i []).contains j = true → listed.getD j false = true := by
        intro j hj
        obtain ⟨-, e, he, hb, he2⟩ := hO.dep i o ho j hj
        rcases he2 with he2 | he2
        · rw [← he2]; exact h2 e he hb
        · exact hcl e.on (h2 e he hb) j he2
      have him : i < m := by
        rcases Nat.lt_or_ge i m with h | h
        · exact h
        · exfalso
          obtain ⟨k, hk1, hkF, hk2⟩ := hex
          have := hd k (hL.tail i h hio k (by omega) hkF)
          rw [hk2] at this
          cases this
      have hX' : ∀ j, (listed.setIfInBounds i true).getD j false = if j = i then true else listed.getD j false := fun j => getD_set (by omega)
      refine hI.op (X' := fun j => (listed.setIfInBounds i true).getD j false) hO hU him (by rw [← getD_tf (by omega)]; exact h1) (by simp [hX']) (fun j hj => by simp [hX', hj]) hd hcl fun μ' a' w' hI' => ?_
      refine ih _ μ' a' w' (by simpa using hs) (fun k hk j hj => ?_) (fun k hk => ?_) hI' ?_
      · rw [hX'] at hk ⊢
        by_cases hji : j = i
        · rw [if_pos hji]
        · rw [if_neg hji]
          by_cases hki : k = i
          · subst hki; exact hd j hj
          · rw [if_neg hki] at hk; exact hcl k hk j hj
      · rw [hX', if_neg (by omega)]; exact hge k hk
      · have := left_lt hs hio h1
        omega
theorem awD2_any {S : St} {Q : Ex → St → Prop} (hO : drawBase ops m dp = true) (hF : drawLag ops m dp F = true)
    (h : awD P ops dp S.n S.M (fun S' => awOps P b ops (Q .normal) (ops.toList.drop m) S') (ops.toList.take m) 0 S.T []) : ∀ μ a w, Env S μ a → Sim S.M μ w → wpAny P .any ops (AQ b Q S.M μ w) ops.size (Array.replicate ops.size false) a { w with drawn := w.drawn + 1 } := by
  have hL := drawLag_spec hF
  have hO := drawBase_spec hO
  have hle := hO.le
  obtain ⟨T', vs', Ns', hU, hT0, hQ⟩ := awD_outs (P := P) (ops := ops) (dp := dp) (n := S.n) (M0 := S.M) (ops.toList.take m) 0 m (fun _ => S.T) (fun _ => undef) [] (fun i => by
    rw [List.getElem?_take, Nat.zero_add, List.length_take]
    by_cases hi : i < m
    · rw [if_pos hi, if_pos (by simp; omega)]; simp
    · rw [if_neg hi, if_neg (by omega)]) (by simp; omega) ⟨rfl, fun k o hk => by omega, fun k o hk => by omega⟩ h
  intro μ a w hE hS
  have hw : ({ w with drawn := w.drawn + 1 } : World).heap = w.heap := rfl
  have hS1 : Sim S.M μ { w with drawn := w.drawn + 1 } := hS.heap hw
  have hlen := hU.len
  have hmask : ∀ (i : Nat) s, (maskP Ns' 0 fun _ => false)[i]? = some s → s = .hole := by
    have key : ∀ (A : List (List Slot)) (j i : Nat) s, (maskP A j fun _ => false)[i]? = some s → s = .hole := by
      intro A
      induction A with
      | nil => intro j i s h; simp [maskP] at h
      | cons x A ih =>
        intro j i s h
        simp only [maskP] at h
        by_cases hi : i < (holes x).length
        · rw [if_neg (by simp), List.getElem?_append_left hi] at h
          exact holes_get h
        · rw [if_neg (by simp), List.getElem?_append_right (by omega)] at h
          exact ih _ _ _ h
    exact key Ns' 0
  have hX : (fun j => (Array.replicate ops.size false).getD j false) = fun _ => false := by
    funext j
    simp [Array.getD_eq_getD_getElem?, Array.getElem?_replicate]
    split <;> rfl
  have live0 : ∀ (i : Nat) r, (S.M ++ maskP Ns' 0 fun _ => false)[i]? = some (.live r) → S.M[i]? = some (.live r) := by
    intro i r hi
    by_cases hlt : i < S.M.length
    · rwa [List.getElem?_append_left hlt] at hi
    · rw [List.getElem?_append_right (by omega)] at hi
      cases hmask _ _ hi
  have mp0 : ∀ (i r : Nat) es, (S.M ++ maskP Ns' 0 fun _ => false)[i]? = some (.mp r es) → S.M[i]? = some (.mp r es) := by
    intro i r es hi
    by_cases hlt : i < S.M.length
    · rwa [List.getElem?_append_left hlt] at hi
    · rw [List.getElem?_append_right (by omega)] at hi
      cases hmask _ _ hi
  have hI : Inv ops dp S.n m b S.M μ w T' vs' Ns' (fun j => (Array.replicate ops.size false).getD j false) μ a { w with drawn := w.drawn + 1 } := by
    rw [hX]
    refine ⟨⟨fun i r hi => (hS1.row i r (live0 i r hi)).sub sub0, fun i j r s hi hj hne ho => hS1.inj i j r s (live0 i r hi) (live0 j s hj) hne ho, fun hon => ⟨(hS1.glob hon).1, (hS1.glob hon).2.1, fun i r hi ho => (hS1.glob hon).2.2 i r (live0 i r hi) ho⟩, fun id r es hr => hS1.maps.1 id r es (mp0 id r es hr), fun i j r es es' hi hj => hS1.maps.2 i j r es es' (mp0 i r es hi) (mp0 j r es' hj)⟩,
      ⟨fun i s hs => ⟨s, (by unfold MA; rw [List.getElem?_append_left (List.getElem?_eq_some_iff.1 hs).1]; exact hs), Slot.evolves_refl _ _⟩, fun _ _ => ⟨rfl, rfl⟩, rfl, rfl, rfl, Nat.le_refl _, fun _ _ _ _ => rfl, fun i r es hi hr => absurd (List.getElem?_eq_some_iff.1 (mp0 i r es hr)).1 (by omega), fun i r hi hr => ?_⟩,
      hS1, (fun j _ h => by cases h), hE.size, hE.defers, fun t v hv ht _ => ?_, (fun j t _ h => by cases h)⟩
    · have := (List.getElem?_eq_some_iff.1 (live0 i r hr)).1
      omega
    · rw [hT0] at hv
      exact hE.val t v hv ht
  refine stage2_any hO hL hU (b := b) (μ0 := μ) (w0 := w) hQ (fun S' μ' a' w' q1 q2 q3 q4 => ⟨.normal, S', μ', rfl, q1, q2, q3, q4⟩) ops.size _ μ a _ (by simp) (fun k hk => ?_) (fun k hk => ?_) hI ?_
  · rw [congrFun hX k] at hk; cases hk
  · exact congrFun hX k
  · unfold left_
    refine Nat.le_trans (List.countP_le_length) (by simp)
theorem awD2_region {S : St} {id : Nat} {Q : Ex → St → Prop} (hm : P.follows .mixedOrders = true) (hO : drawBase ops m dp = true) (hF : drawLag ops m dp F = true)
    (h : awD P ops dp S.n S.M (fun S' => awOps P b ops (Q .normal) (ops.toList.drop m) S') (ops.toList.take m) 0 S.T []) : AW P b (.region id ops true) Q S :=
  fun μ a w hE hS => wp_region_any hm (awD2_any hO hF h μ a w hE hS)
end
end Go.Proofs.YtodbjnngkonklaaGreat

namespace Go.Proofs.YtodbjnngkonklaaGreat
open Go.RowKit
set_option linter.unusedVariables false
set_option linter.unusedSimpArgs false

def drawBack (ops : Array Oper) : Bool := (List.range ops.size).all fun k => match ops[k]? with
  | none => false
  | some o => o.guard.isNone && o.after.all fun e => !Region.binds .any e || decide (e.on < k)
theorem drawBack_spec {ops : Array Oper} (h : drawBack ops = true) : ∀ k o, ops[k]? = some o → o.guard = none ∧ ∀ e ∈ o.after.toList, Region.binds .any e = true → e.on < k := by
  intro k o ho
  have := List.all_eq_true.1 h k (List.mem_range.2 (Array.getElem?_eq_some_iff.1 ho).1)
  rw [ho] at this
  simp only [Bool.and_eq_true] at this
  obtain ⟨h1, h2⟩ := this
  refine ⟨by simpa using h1, fun e he hb => ?_⟩
  rw [Array.all_eq_true] at h2
  obtain ⟨i, hi, rfl⟩ := List.getElem_of_mem he
  have := h2 i (by simpa using hi)
  simp at hb
  simpa [hb] using this
def drawBackG (ops : Array Oper) : Bool := (List.range ops.size).all fun k => match ops[k]? with
  | none => false
  | some o => o.after.all fun e => !Region.binds .any e || decide (e.on < k)
theorem drawBackG_spec {ops : Array Oper} (h : drawBackG ops = true) : ∀ k o, ops[k]? = some o → ∀ e ∈ o.after.toList, Region.binds .any e = true → e.on < k := by
  intro k o ho
  have h2 := List.all_eq_true.1 h k (List.mem_range.2 (Array.getElem?_eq_some_iff.1 ho).1)
  rw [ho] at h2
  intro e he hb
  simp only at h2
  rw [Array.all_eq_true] at h2
  obtain ⟨i, hi, rfl⟩ := List.getElem_of_mem he
  have := h2 i (by simpa using hi)
  simp at hb
  simpa [hb] using this
theorem drawBack_G {ops : Array Oper} (h : drawBack ops = true) : drawBackG ops = true := by
  unfold drawBackG
  rw [List.all_eq_true]
  intro k hk
  have := List.all_eq_true.1 h k hk
  cases ho : ops[k]? with
  | none => rw [ho] at this; exact this
  | some o =>
    rw [ho] at this
    simp only [Bool.and_eq_true] at this
    exact this.2
def upX (X : Nat → Bool) (k : Nat) : Nat → Bool := fun j => if j = k then true else X j
@[simp] theorem upX_same (X : Nat → Bool) (k : Nat) : upX X k k = true := if_pos rfl
theorem upX_ne {X : Nat → Bool} {j k : Nat} (h : j ≠ k) : upX X k j = X j := if_neg h
section
variable {P : Program} {ops : Array Oper} {b : Nat}
theorem inv_any {Q : St → Prop} (hB : drawBackG ops = true) (I : (Nat → Bool) → St → Prop)
    (hstep : ∀ X S k o, I X S → ops[k]? = some o → X k = false → (∀ e ∈ o.after.toList, Region.binds .any e = true → X e.on = true) → awG ops o S (awOp P false b o S fun v M' => I (upX X k) (St.put { S with M := M' } o.dst v)) (I (upX X k) (S.put o.dst undef)))
    (hend : ∀ X S, (∀ k, k < ops.size → X k = true) → I X S → Q S) : ∀ (fuel : Nat) (listed : Array Bool) (S : St) (μ : Map) (a : Act) (w : World) (R : Exit → Act → World → Prop), listed.size = ops.size → left_ ops listed ≤ fuel → I (fun j => listed.getD j false) S → Env S μ a → Sim S.M μ w →
      (∀ S' μ' a' w', Q S' → Env S' μ' a' → Sim S'.M μ' w' → Step b S.M μ w S'.M μ' w' → R .normal a' w') → wpAny P .any ops R fuel listed a w := by
  have hB' := drawBackG_spec hB
  have full : ∀ listed : Array Bool, listed.size = ops.size → (∀ k, k < ops.size → listed.getD k false = true) → Region.ready .any ops listed = [] := by
    intro listed hs hall
    apply List.eq_nil_iff_forall_not_mem.2
    intro i hi
    obtain ⟨o, ho, h1, -⟩ := ready_iff.1 hi
    have hio := (Array.getElem?_eq_some_iff.1 ho).1
    rw [getD_tf (by omega), hall i hio] at h1
    cases h1
  intro fuel
  induction fuel with
  | zero =>
    intro listed S μ a w R hs hf hI hE hS hR
    have hall : ∀ k, k < ops.size → listed.getD k false = true := by
      intro k hk
      unfold left_ at hf
      have h0 : (List.range ops.size).countP (fun i => !listed.getD i true) = 0 := by omega
      rw [List.countP_eq_zero] at h0
      have := h0 k (List.mem_range.2 hk)
      rw [getD_tf (by omega)] at this
      simpa using this
    exact ⟨full listed hs hall, hR S μ a w (hend _ S hall hI) hE hS .refl⟩
  | succ fuel ih =>
    intro listed S μ a w R hs hf hI hE hS hR
    by_cases hall : ∀ k, k < ops.size → listed.getD k false = true
    · have hnil := full listed hs hall
      exact ⟨fun _ => hR S μ a w (hend _ S hall hI) hE hS .refl, fun i hi => by rw [hnil] at hi; cases hi⟩
    · have hne : Region.ready .any ops listed ≠ [] := by
        have hex : ∃ i, i < ops.size ∧ listed.getD i false = false := by
          rcases Classical.em (∃ k, k < ops.size ∧ listed.getD k false = false) with h | h
          · exact h
          · exact absurd (fun k hk => by
              cases hv : listed.getD k false with
              | true => rfl
              | false => exact absurd ⟨k, hk, hv⟩ h) hall
        obtain ⟨i, hi, hv, hle⟩ := least_false (p := fun k => listed.getD k false) ops.size hex
        obtain ⟨o, ho⟩ : ∃ o, ops[i]? = some o := ⟨_, Array.getElem?_eq_getElem hi⟩
        have : i ∈ Region.ready .any ops listed := ready_iff.2 ⟨o, ho, by rw [getD_tf (by omega)]; exact hv, fun e he hb => hle _ (hB' i o ho e he hb)⟩
        intro h0
        rw [h0] at this
        cases this
      refine ⟨fun h0 => absurd h0 hne, fun i hi => ?_⟩
      obtain ⟨o, ho, h1, h2⟩ := ready_iff.1 hi
      have hio := (Array.getElem?_eq_some_iff.1 ho).1
      have hX' : (fun j => (listed.setIfInBounds i true).getD j false) = upX (fun j => listed.getD j false) i := by
        funext j
        exact getD_set (by omega)
      unfold wpOp
      simp only [ho]
      have hst0 := hstep _ S i o hI ho (by rw [← getD_tf (by omega)]; exact h1) h2
      have go : (awOp P false b o S fun v M' => I (upX (fun j => listed.getD j false) i) (St.put { S with M := M' } o.dst v)) → o.wp P a w (wpAny P .any ops R fuel (listed.setIfInBounds i true)) R := fun h' =>
        awOp_wp h' hE hS fun v M' c μ' w' hK hv hS' hst => ih _ _ μ' _ w' R (by simpa using hs) (by have := left_lt hs hio h1; omega) (by rw [hX']; exact hK) (hE.put hst hv o.dst) (by cases o.dst <;> exact hS')
          fun S'' μ'' a'' w'' q1 q2 q3 q4 => hR S'' μ'' a'' w'' q1 q2 q3 (hst.trans (by cases hd : o.dst <;> rw [hd] at q4 <;> exact q4))
      have skip : I (upX (fun j => listed.getD j false) i) (S.put o.dst undef) → wpAny P .any ops R fuel (listed.setIfInBounds i true) (a.put o.dst undef) w := fun h' => by
        have hE' := hE.put (b := b) (M' := S.M) (μ' := μ) (w := w) (w' := w) .refl (v := undef) (c := undef) (.tup rfl (fun i x y h => by simp at h)) o.dst
        exact ih _ _ μ _ w R (by simpa using hs) (by have := left_lt hs hio h1; omega) (by rw [hX']; exact h') hE' (by cases o.dst <;> exact hS) fun S'' μ'' a'' w'' q1 q2 q3 q4 => hR S'' μ'' a'' w'' q1 q2 q3 (by cases hd : o.dst <;> rw [hd] at q4 <;> exact q4)
      unfold awG at hst0
      cases hg : o.guard with
      | none =>
        rw [hg] at hst0
        rw [if_pos (by simp [Region.wanted, hg])]
        exact .inl (go hst0)
      | some jw =>
        obtain ⟨j, want⟩ := jw
        rw [hg] at hst0
        obtain ⟨g, hg1, h⟩ := ow_iff.1 hst0
        obtain ⟨t, ht, hget⟩ := Option.bind_eq_some_iff.1 hg1
        obtain ⟨c, hc1, hc2⟩ := get_rel hE hget
        have hy : yielded ops a.tmps j = match c with | .bool y => some y | _ => none := by
          unfold yielded
          rw [show (ops[j]?).bind (·.dst) = some t from ht]
          simp only [Option.bind_some, hc1]
          cases c <;> rfl
        cases g <;> simp only at h <;> try exact h.elim
        · rename_i y
          have := hc2.bool
          subst this
          by_cases hyw : y = want
          · rw [if_pos (by simp [Region.wanted, hg, hy, hyw])]
            exact .inl (go (h.1 hyw))
          · rw [if_neg (by simp [Region.wanted, hg, hy, hyw])]
            exact skip (h.2 (by cases y <;> cases want <;> simp_all))
        · obtain ⟨ys, rfl, -⟩ := hc2.tup_inv
          rw [if_neg (by simp [Region.wanted, hg, hy])]
          exact skip h
theorem inv_region {S : St} {id : Nat} {Q : Ex → St → Prop} (hm : P.follows .mixedOrders = true) (hB : drawBackG ops = true) (I : (Nat → Bool) → St → Prop) (h0 : I (fun _ => false) S)
    (hstep : ∀ X S k o, I X S → ops[k]? = some o → X k = false → (∀ e ∈ o.after.toList, Region.binds .any e = true → X e.on = true) → awG ops o S (awOp P false b o S fun v M' => I (upX X k) (St.put { S with M := M' } o.dst v)) (I (upX X k) (S.put o.dst undef)))
    (hend : ∀ X S, (∀ k, k < ops.size → X k = true) → I X S → Q .normal S) : AW P b (.region id ops true) Q S := by
  intro μ a w hE hS
  refine wp_region_any hm ?_
  have hw : ({ w with drawn := w.drawn + 1 } : World).heap = w.heap := rfl
  have hX : (fun j => (Array.replicate ops.size false).getD j false) = fun _ => false := by
    funext j
    simp [Array.getD_eq_getD_getElem?, Array.getElem?_replicate]
    split <;> rfl
  refine inv_any (Q := Q .normal) hB I hstep hend ops.size _ S μ a _ _ (by simp) ?_ (by rw [hX]; exact h0) hE (hS.heap hw) fun S' μ' a' w' q1 q2 q3 q4 => ⟨.normal, S', μ', rfl, q1, q2, q3, Step.trans (Step.heap (b := b) (M := S.M) (μ := μ) (w := w) (w' := { w with drawn := w.drawn + 1 }) rfl rfl rfl rfl) q4⟩
  unfold left_
  exact Nat.le_trans List.countP_le_length (by simp)
end
end Go.Proofs.YtodbjnngkonklaaGreat

namespace Go.Proofs.YtodbjnngkonklaaGreat
open Go.RowKit
set_option linter.unusedVariables false
set_option linter.unusedSimpArgs false
/-- An operation whose edges and guard are numbered anew. -/
def rnOp (p : List Nat) (o : Oper) : Oper := { o with after := o.after.map fun e => { e with on := p.getD e.on 0 }, guard := o.guard.map fun g => (p.getD g.1 0, g.2) }
def permOps (ops : Array Oper) (p q : List Nat) : Array Oper := (q.map fun i => rnOp p (ops.getD i default)).toArray
def permOk (ops : Array Oper) (p q : List Nat) : Bool :=
  decide (p.length = ops.size) && decide (q.length = ops.size) && ((List.range ops.size).all fun i => decide (p.getD i 0 < ops.size) && decide (q.getD i 0 < ops.size) && decide (q.getD (p.getD i 0) 0 = i) && decide (p.getD (q.getD i 0) 0 = i)) &&
  ((List.range ops.size).all fun i => ((ops.getD i default).after.all fun e => decide (e.on < ops.size)) && (match (ops.getD i default).guard with | none => true | some g => decide (g.1 < ops.size)))
structure PermOk (ops : Array Oper) (p q : List Nat) : Prop where
  lp : p.length = ops.size
  lq : q.length = ops.size
  pl : ∀ i, i < ops.size → p.getD i 0 < ops.size
  ql : ∀ i, i < ops.size → q.getD i 0 < ops.size
  qp : ∀ i, i < ops.size → q.getD (p.getD i 0) 0 = i
  pq : ∀ i, i < ops.size → p.getD (q.getD i 0) 0 = i
  on : ∀ (i : Nat) (o : Oper), ops[i]? = some o → ∀ e ∈ o.after.toList, e.on < ops.size
  gd : ∀ (i : Nat) (o : Oper) (g : Nat × Bool), ops[i]? = some o → o.guard = some g → g.1 < ops.size
theorem permOk_spec {ops : Array Oper} {p q : List Nat} (h : permOk ops p q = true) : PermOk ops p q := by
  unfold permOk at h
  simp only [Bool.and_eq_true, decide_eq_true_eq, List.all_eq_true, List.mem_range] at h
  obtain ⟨⟨⟨h1, h2⟩, h3⟩, h4⟩ := h
  refine ⟨h1, h2, fun i hi => (h3 i hi).1.1.1, fun i hi => (h3 i hi).1.1.2, fun i hi => (h3 i hi).1.2, fun i hi => (h3 i hi).2, fun i o ho e he => ?_, fun i o g ho hg => ?_⟩
  · have hi := (Array.getElem?_eq_some_iff.1 ho).1
    have hd : ops.getD i default = o := by rw [Array.getD_eq_getD_getElem?, ho]; rfl
    have := (h4 i hi).1
    rw [hd, Array.all_eq_true] at this
    obtain ⟨j, hj, rfl⟩ := List.getElem_of_mem he
    have := this j (by simpa using hj)
    simpa using this
  · have hi := (Array.getElem?_eq_some_iff.1 ho).1
    have hd : ops.getD i default = o := by rw [Array.getD_eq_getD_getElem?, ho]; rfl
    have := (h4 i hi).2
    rw [hd, hg] at this
    simpa using this
section
variable {P : Program} {ops : Array Oper} {p q : List Nat} {Q : Exit → Act → World → Prop}
theorem PermOk.size (h : PermOk ops p q) : (permOps ops p q).size = ops.size := by simp [permOps, h.lq]
theorem PermOk.get (h : PermOk ops p q) {i : Nat} {o : Oper} (ho : ops[i]? = some o) : (permOps ops p q)[p.getD i 0]? = some (rnOp p o) := by
  have hi := (Array.getElem?_eq_some_iff.1 ho).1
  have hp := h.pl i hi
  have hq : q[p.getD i 0]? = some i := by
    have := h.qp i hi
    rw [List.getD_eq_getElem?_getD] at this
    have hx : q[p.getD i 0]? = some (q[p.getD i 0]'(by rw [h.lq]; exact hp)) := List.getElem?_eq_getElem _
    rw [hx] at this ⊢
    simpa using this
  have hd : ops.getD i default = o := by rw [Array.getD_eq_getD_getElem?, ho]; rfl
  unfold permOps
  rw [List.getElem?_toArray, List.getElem?_map, hq]
  simp only [Option.map_some, hd]
theorem PermOk.yield (h : PermOk ops p q) (t : Array Value) {j : Nat} (hj : j < ops.size) : yielded (permOps ops p q) t (p.getD j 0) = yielded ops t j := by
  have ho : ops[j]? = some ops[j] := Array.getElem?_eq_getElem hj
  unfold yielded
  rw [h.get ho, ho]
  rfl
theorem PermOk.wanted (h : PermOk ops p q) (t : Array Value) {i : Nat} {o : Oper} (ho : ops[i]? = some o) : Region.wanted (rnOp p o) (yielded (permOps ops p q) t) = Region.wanted o (yielded ops t) := by
  unfold Region.wanted rnOp
  cases hg : o.guard with
  | none => rfl
  | some g =>
    obtain ⟨j, w⟩ := g
    show (yielded (permOps ops p q) t (p.getD j 0) == some w) = _
    rw [h.yield t (h.gd i o _ ho hg)]
theorem PermOk.ready (h : PermOk ops p q) {listed listed' : Array Bool} (hl : ∀ i, i < ops.size → listed'.getD (p.getD i 0) false = listed.getD i false) (hs : listed.size = ops.size) (hs' : listed'.size = ops.size) {i : Nat} (hi : i ∈ Region.ready .any ops listed) : p.getD i 0 ∈ Region.ready .any (permOps ops p q) listed' := by
  obtain ⟨o, ho, h1, h2⟩ := ready_iff.1 hi
  have hil := (Array.getElem?_eq_some_iff.1 ho).1
  have hp := h.pl i hil
  refine ready_iff.2 ⟨_, h.get ho, ?_, fun e he hb => ?_⟩
  · rw [getD_tf (by omega), hl i hil, ← getD_tf (by omega)]; exact h1
  · obtain ⟨e0, he0, rfl⟩ : ∃ e0, e0 ∈ o.after.toList ∧ ({ e0 with on := p.getD e0.on 0 } : Edge) = e := by
      have : e ∈ (o.after.map fun e => ({ e with on := p.getD e.on 0 } : Edge)).toList := he
      simp only [Array.toList_map, List.mem_map] at this
      exact this
    show listed'.getD (p.getD e0.on 0) false = true
    rw [hl _ (h.on i o ho e0 he0)]
    exact h2 e0 he0 hb
theorem PermOk.back (h : PermOk ops p q) {listed listed' : Array Bool} (hl : ∀ i, i < ops.size → listed'.getD (p.getD i 0) false = listed.getD i false) (hs : listed.size = ops.size) (hs' : listed'.size = ops.size) (hr : Region.ready .any ops listed = []) : Region.ready .any (permOps ops p q) listed' = [] := by
  apply List.eq_nil_iff_forall_not_mem.2
  intro j hj
  obtain ⟨o', ho', h1, h2⟩ := ready_iff.1 hj
  have hjl : j < ops.size := by have := (Array.getElem?_eq_some_iff.1 ho').1; rwa [h.size] at this
  have hq := h.ql j hjl
  have ho : ops[q.getD j 0]? = some ops[q.getD j 0] := Array.getElem?_eq_getElem hq
  have hg := h.get ho
  rw [h.pq j hjl, ho'] at hg
  injection hg with hg
  subst hg
  have hm : q.getD j 0 ∈ Region.ready .any ops listed := by
    refine ready_iff.2 ⟨_, ho, ?_, fun e he hb => ?_⟩
    · rw [getD_tf (by omega), ← hl _ hq, h.pq j hjl, ← getD_tf (by omega)]; exact h1
    · have hon := h.on _ _ ho e he
      rw [← hl _ hon]
      have := h2 { e with on := p.getD e.on 0 } (by
        show _ ∈ (ops[q.getD j 0].after.map fun e => ({ e with on := p.getD e.on 0 } : Edge)).toList
        rw [Array.toList_map]
        exact List.mem_map.2 ⟨e, he, rfl⟩) hb
      exact this
  rw [hr] at hm
  cases hm
theorem PermOk.op (h : PermOk ops p q) {i : Nat} {K : Act → World → Prop} {a : Act} {w : World} (hi : i < ops.size) (hw : wpOp P (permOps ops p q) Q (p.getD i 0) K a w) : wpOp P ops Q i K a w := by
  have ho : ops[i]? = some ops[i] := Array.getElem?_eq_getElem hi
  unfold wpOp at hw ⊢
  rw [h.get ho] at hw
  rw [ho]
  simp only at hw ⊢
  rw [h.wanted a.tmps ho] at hw
  exact hw
theorem perm_any (h : PermOk ops p q) : ∀ (fuel : Nat) (listed listed' : Array Bool) (a : Act) (w : World), (∀ i, i < ops.size → listed'.getD (p.getD i 0) false = listed.getD i false) → listed.size = ops.size → listed'.size = ops.size →
    wpAny P .any (permOps ops p q) Q fuel listed' a w → wpAny P .any ops Q fuel listed a w := by
  intro fuel
  induction fuel with
  | zero =>
    intro listed listed' a w hl hs hs' ⟨h1, h2⟩
    refine ⟨?_, h2⟩
    apply List.eq_nil_iff_forall_not_mem.2
    intro i hi
    have := h.ready hl hs hs' hi
    rw [h1] at this
    cases this
  | succ fuel ih =>
    intro listed listed' a w hl hs hs' ⟨h1, h2⟩
    refine ⟨fun hr => h1 (h.back hl hs hs' hr), fun i hi => ?_⟩
    obtain ⟨o, ho, -, -⟩ := ready_iff.1 hi
    have hil := (Array.getElem?_eq_some_iff.1 ho).1
    refine h.op hil (wpOp_mono (fun a w hw => ih (listed.setIfInBounds i true) (listed'.setIfInBounds (p.getD i 0) true) a w (fun j hj => ?_) (by simpa using hs) (by simpa using hs') hw) (h2 _ (h.ready hl hs hs' hi)))
    rw [getD_set (listed := listed') (i := p.getD i 0) (by have := h.pl i hil; omega), getD_set (listed := listed) (i := i) (by omega)]
    by_cases e : j = i
    · subst e; rw [if_pos rfl, if_pos rfl]
    · rw [if_neg e, if_neg (fun hh => e (by have := congrArg (q.getD · 0) hh; simp only [h.qp j hj, h.qp i hil] at this; exact this))]
      exact hl j hj
theorem perm_region {b : Nat} {S : St} {id : Nat} {Q : Ex → St → Prop} (hp : permOk ops p q = true) (h : ∀ μ a w, Env S μ a → Sim S.M μ w → wpAny P .any (permOps ops p q) (AQ b Q S.M μ w) ops.size (Array.replicate ops.size false) a { w with drawn := w.drawn + 1 }) (hm : P.follows .mixedOrders = true) : AW P b (.region id ops true) Q S := by
  have hp := permOk_spec hp
  intro μ a w hE hS
  refine wp_region_any hm (perm_any hp _ _ (Array.replicate ops.size false) _ _ (fun i hi => ?_) (by simp) (by simp) (h μ a w hE hS))
  have := hp.pl i hi
  simp [Array.getD_eq_getD_getElem?, Array.getElem?_replicate, hi]
  split <;> rfl
end
end Go.Proofs.YtodbjnngkonklaaGreat
