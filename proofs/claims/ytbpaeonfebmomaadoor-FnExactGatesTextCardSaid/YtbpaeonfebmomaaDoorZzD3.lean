/- Parts of the proof, together: Regions that draw their order: the steps, and the whole. Regions that draw their order: the whole region; code; functions. No conditions. -/
import Derived.Test.YtbpaeonfebmomaaDoorZzD2
namespace Go.Proofs.YtbpaeonfebmomaaDoor
open Go.RowKit
set_option linter.unusedVariables false
set_option linter.unusedSimpArgs false

section
variable {P : Program} {ops : Array Oper} {dp : List (List Nat)} {n m b : Nat} {M0 : Mem} {μ0 : Map} {w0 : World} {T : Nat → List (Nat × Value)} {vs : Nat → Value} {Ns : List (List Slot)}

theorem put_get {a : Act} {d : Option Tmp} {c : Value} {t : Nat} (h : d ≠ some t) : (a.put d c).tmps[t]? = a.tmps[t]? := by
  cases d with
  | none => rfl
  | some d =>
    simp only [Act.put]
    rw [Array.getElem?_setIfInBounds_ne (fun e => h (by rw [e]))]
theorem put_same {a : Act} {t : Tmp} {c : Value} (h : t < a.tmps.size) : (a.put (some t) c).tmps[t]? = some c := by
  simp only [Act.put]
  rw [Array.getElem?_setIfInBounds_self, if_pos h]

/-- One stable operation more has been done. -/
theorem Inv.next (hO : DrawOk ops m dp) (hU : Outs P ops dp n M0 m T vs Ns) {X X' : Nat → Bool} {μ μ2 : Map} {a : Act} {w w' : World} {k : Nat} {o : Oper} {c : Value}
    (h : Inv ops dp n m b M0 μ0 w0 T vs Ns X μ a w) (hk : k < m) (ho : ops[k]? = some o) (hXk : X k = false) (hX' : X' k = true) (hX : ∀ j, j ≠ k → X' j = X j) (hd : ∀ j, (dp.getD k []).contains j = true → X j = true)
    (hclos : ∀ k, X k = true → ∀ j, (dp.getD k []).contains j = true → X j = true)
    (hsim : Sim (MA M0 Ns X') μ2 w') (hstep : Step b M0 μ0 w0 (MA M0 Ns X') μ2 w') (hm1 : MapEq (MA M0 Ns X) μ μ2) (hblk : ∀ k, k < w.heap.size → w'.heap[k]? = w.heap[k]?) (hsz : w.heap.size ≤ w'.heap.size)
    (hME : Sim (ME M0 dp Ns k) μ2 w') (hv : VRel (ME M0 dp Ns k) μ2 (vs k) c) : Inv ops dp n m b M0 μ0 w0 T vs Ns X' μ2 (a.put o.dst c) w' := by
  have hlen := hU.len
  have hdk : dstOf ops k = o.dst := by simp [dstOf, ho]
  have mj : ∀ j, j < m → X j = true → MapEq (ME M0 dp Ns j) μ μ2 := fun j hj hXj i s hi hs => hm1 i s (ME_subA (by omega) hXj (hclos j hXj) i s hi hs) hs
  have m0 : MapEq M0 μ μ2 := fun i s hi hs => hm1 i s (sub0 i s hi hs) hs
  refine ⟨hsim, hstep, (h.sim0.grow hblk hsz).remap m0, fun j hj hXj => ?_, by cases hdd : o.dst <;> simp [Act.put, h.size], by cases hdd : o.dst <;> simp [Act.put, h.defers], fun t v hv' ht hall => ?_, fun j t hj hXj hjt ht => ?_⟩
  · by_cases hjk : j = k
    · subst hjk; exact hME
    · rw [hX j hjk] at hXj
      exact ((h.simj j hj hXj).grow hblk hsz).remap (mj j hj hXj)
  · obtain ⟨c0, h1, h2⟩ := h.e0 t v hv' ht hall
    refine ⟨c0, ?_, h2.remap m0⟩
    rw [put_get (by rw [← hdk]; exact hall k hk)]
    exact h1
  · by_cases hjk : j = k
    · subst hjk
      refine ⟨c, ?_, hv⟩
      rw [hdk] at hjt
      rw [hjt]
      exact put_same (by rw [h.size]; exact ht)
    · rw [hX j hjk] at hXj
      obtain ⟨c0, h1, h2⟩ := h.e1 j t hj hXj hjt ht
      refine ⟨c0, ?_, h2.remap (mj j hj hXj)⟩
      rw [put_get]
      · exact h1
      · rw [← hdk]
        intro e
        rcases Nat.lt_or_ge j k with hlt | hge
        · exact hO.apart k t j hk e hlt hjt
        · exact hO.apart j t k hj hjt (by omega) e

/-- A stable operation, all on which it hangs being done. -/
theorem Inv.op (hO : DrawOk ops m dp) (hU : Outs P ops dp n M0 m T vs Ns) {X X' : Nat → Bool} {μ : Map} {a : Act} {w : World} {k : Nat} {R : Exit → Act → World → Prop} {K : Act → World → Prop}
    (h : Inv ops dp n m b M0 μ0 w0 T vs Ns X μ a w) (hk : k < m) (hXk : X k = false) (hX' : X' k = true) (hX : ∀ j, j ≠ k → X' j = X j) (hd : ∀ j, (dp.getD k []).contains j = true → X j = true)
    (hclos : ∀ k, X k = true → ∀ j, (dp.getD k []).contains j = true → X j = true)
    (hK : ∀ μ' a' w', Inv ops dp n m b M0 μ0 w0 T vs Ns X' μ' a' w' → K a' w') : wpOp P ops R k K a w := by
  have hlen := hU.len
  have hko : k < ops.size := by have := hO.le; omega
  obtain ⟨o, ho⟩ : ∃ o, ops[k]? = some o := ⟨_, Array.getElem?_eq_getElem hko⟩
  have hS := h.simK hO hU hk hd
  have hE := h.envK hO hU hk hd
  obtain ⟨l1, l2⟩ := look_T hO hU k (by omega)
  have hout := hU.out k o hk ho
  simp only at hout
  unfold wpOp
  simp only [ho]
  have eX : MA M0 Ns X = (M0 ++ maskP (Ns.take k) 0 X) ++ (holes (Ns.getD k []) ++ maskP (Ns.drop (k + 1)) (k + 1) X) := by rw [MA_split (k := k) (by omega), hXk]; rfl
  have eX' : MA M0 Ns X' = (M0 ++ maskP (Ns.take k) 0 X) ++ (Ns.getD k [] ++ maskP (Ns.drop (k + 1)) (k + 1) X) := by
    rw [MA_split (k := k) (by omega), hX', if_pos rfl]
    rw [maskP_congr (p := X') (q := X) (Ns.take k) 0 fun i _ h2 => hX i (by simp at h2; omega), maskP_congr (p := X') (q := X) (Ns.drop (k + 1)) (k + 1) fun i h1 _ => hX i (by omega)]
  have run : (∃ M', Ns[k]? = some (M'.drop (MK M0 dp Ns k).length) ∧ ∀ K' : Value → Mem → Prop, K' (vs k) M' → awOp P true (MK M0 dp Ns k).length o ⟨n, T k, MK M0 dp Ns k⟩ K') → o.wp P a w K R := by
    rintro ⟨M', hN, hop⟩
    have hop' : awOp P true (MK M0 dp Ns k).length o ⟨n, (T k).filter fun e => keepK ops dp m k e.1, MK M0 dp Ns k⟩ (fun v M'' => v = vs k ∧ M'' = M') := by
      refine awOp_congr (S := ⟨n, T k, MK M0 dp Ns k⟩) rfl (fun x hx => ?_) (hop _ ⟨rfl, rfl⟩)
      cases x with
      | tmp t =>
        simp only [St.ev, St.get]
        split
        · rw [look_filter, if_pos]
          unfold keepK
          rw [Bool.or_eq_true]
          by_cases hex : ∃ j, j < m ∧ dstOf ops j = some t
          · obtain ⟨j, hj, hjt⟩ := hex
            left
            rw [List.any_eq_true]
            exact ⟨j, by simpa using hO.reads k o hk ho t hx j hj hjt, by simp [hjt]⟩
          · right
            rw [List.all_eq_true]
            intro j hj
            have : dstOf ops j ≠ some t := fun e => hex ⟨j, by simpa using hj, e⟩
            simpa using this
        · rfl
      | _ => rfl
    refine awOp_wp hop' hE hS fun v M'' c μ' w' hvM hv hS' hst => ?_
    obtain ⟨rfl, rfl⟩ := hvM
    simp only at hst hS' hv
    -- the new memory is the old one and more
    have hext : M'' = MK M0 dp Ns k ++ Ns.getD k [] := by
      have e1 : Ns.getD k [] = M''.drop (MK M0 dp Ns k).length := by rw [List.getD_eq_getElem?_getD, hN]; rfl
      rw [e1]
      have e2 : M''.take (MK M0 dp Ns k).length = MK M0 dp Ns k := by
        apply List.ext_getElem?
        intro i
        rw [List.getElem?_take]
        by_cases hi : i < (MK M0 dp Ns k).length
        · rw [if_pos hi]
          obtain ⟨s', h1, h2⟩ := hst.slot i _ (List.getElem?_eq_getElem hi)
          rw [h1, List.getElem?_eq_getElem hi]
          congr 1
          generalize (MK M0 dp Ns k)[i] = s at h2
          cases s <;> cases s' <;> simp_all [Slot.evolves]
        · rw [if_neg hi, List.getElem?_eq_none (by omega)]
      conv => lhs; rw [← List.take_append_drop (MK M0 dp Ns k).length M'', e2]
    subst hext
    have hl : (MK M0 dp Ns k).length = (M0 ++ maskP (Ns.take k) 0 X).length := by
      unfold MK
      simp only [List.length_append]
      rw [maskP_len]
    obtain ⟨μ2, s1, s2, s3, s4⟩ := Sim.merge (b := b) (M0 := M0) (μ0 := μ0) (w0 := w0) hl (MK_sub (by omega) hd) (by rw [← eX]; exact h.sim) hS' hst (by simp) (by rw [← eX]; exact h.step)
    rw [← eX'] at s1 s2
    rw [← eX] at s3
    have hblk : ∀ i, i < w.heap.size → w'.heap[i]? = w.heap[i]? := fun i hi => hst.block i hi fun j r hj hr _ => absurd (List.getElem?_eq_some_iff.1 hr).1 (by omega)
    exact hK μ2 _ w' (h.next hO hU hk ho hXk hX' hX hd hclos s1 s2 s3 hblk hst.size (hS'.remap s4) (hv.remap s4))
  have skip : vs k = undef → Ns[k]? = some [] → K (a.put o.dst undef) w := by
    intro e1 e2
    have eN : Ns.getD k [] = [] := by rw [List.getD_eq_getElem?_getD, e2]; rfl
    have eA : MA M0 Ns X' = MA M0 Ns X := by rw [eX, eX', eN]; rfl
    have eE : ME M0 dp Ns k = MK M0 dp Ns k := by unfold ME; rw [eN, List.append_nil]
    exact hK μ _ w (h.next hO hU hk ho hXk hX' hX hd hclos (by rw [eA]; exact h.sim) (by rw [eA]; exact h.step) (fun _ _ _ _ => ⟨rfl, rfl⟩) (fun _ _ => rfl) (Nat.le_refl _) (by rw [eE]; exact hS) (by rw [e1]; exact .tup rfl (fun i x y h => by simp at h)))
  unfold awG at hout
  cases hg : o.guard with
  | none =>
    rw [hg] at hout
    rw [if_pos (by simp [Region.wanted, hg])]
    exact .inl (run hout)
  | some jw =>
    obtain ⟨j, want⟩ := jw
    rw [hg] at hout
    obtain ⟨g, hg1, hout⟩ := ow_iff.1 hout
    obtain ⟨t, ht, hget⟩ := Option.bind_eq_some_iff.1 hg1
    have hjc := hO.guard k o j want hk ho hg
    have hjk := (hO.dep k o ho j hjc).1
    simp only [St.get] at hget
    split at hget
    · rename_i htn
      rw [l1 j t hjk ht] at hget
      injection hget with hget
      subst hget
      obtain ⟨c, hc1, hc2⟩ := h.e1 j t (by omega) (hd j hjc) ht htn
      have hy : yielded ops a.tmps j = match c with | .bool y => some y | _ => none := by
        unfold yielded
        have ht' : ((ops[j]?).bind (·.dst)) = some t := ht
        rw [ht']
        simp only [Option.bind_some, hc1]
        cases c <;> rfl
      cases hvj : vs j <;> rw [hvj] at hout hc2 <;> simp only at hout <;> try exact hout.elim
      · rename_i y
        have := hc2.bool
        subst this
        by_cases hyw : y = want
        · rw [if_pos (by simp [Region.wanted, hg, hy, hyw])]
          exact .inl (run (hout.1 hyw))
        · rw [if_neg (by simp [Region.wanted, hg, hy, hyw])]
          obtain ⟨e1, e2⟩ := hout.2 (by cases y <;> cases want <;> simp_all)
          exact skip e1 e2
      · obtain ⟨ys, rfl, -⟩ := hc2.tup_inv
        rw [if_neg (by simp [Region.wanted, hg, hy])]
        exact skip hout.1 hout.2
    · cases hget
end
end Go.Proofs.YtbpaeonfebmomaaDoor

namespace Go.Proofs.YtbpaeonfebmomaaDoor
open Go.RowKit
set_option linter.unusedVariables false
set_option linter.unusedSimpArgs false

theorem countP_lt {p q : Nat → Bool} : ∀ {l : List Nat}, (∀ i ∈ l, p i = true → q i = true) → (∃ i ∈ l, q i = true ∧ p i = false) → l.countP p < l.countP q
  | [], _, ⟨i, hi, _⟩ => by cases hi
  | x :: l, h, ⟨i, hi, h1, h2⟩ => by
    simp only [List.countP_cons]
    have hle : l.countP p ≤ l.countP q := List.countP_mono_left fun i hi => h i (List.mem_cons_of_mem _ hi)
    rcases List.mem_cons.1 hi with rfl | hi
    · rw [if_pos h1, if_neg (by simp [h2])]; omega
    · have := countP_lt (fun i hi => h i (List.mem_cons_of_mem _ hi)) ⟨i, hi, h1, h2⟩
      have hx := h x (List.mem_cons_self)
      by_cases hp : p x = true
      · rw [if_pos hp, if_pos (hx hp)]; omega
      · rw [if_neg hp]; split <;> omega
def left_ (ops : Array Oper) (listed : Array Bool) : Nat := (List.range ops.size).countP fun i => !listed.getD i true
theorem left_lt {ops : Array Oper} {listed : Array Bool} {i : Nat} (hs : listed.size = ops.size) (hi : i < ops.size) (hl : listed.getD i true = false) : left_ ops (listed.setIfInBounds i true) < left_ ops listed := by
  refine countP_lt (fun j hj h => ?_) ⟨i, List.mem_range.2 hi, by simp [hl], ?_⟩
  · by_cases hij : j = i
    · subst hij; simp [hl]
    · simp only [Array.getD_eq_getD_getElem?] at h ⊢
      rw [Array.getElem?_setIfInBounds_ne (by omega)] at h
      exact h
  · simp only [Array.getD_eq_getD_getElem?]
    rw [Array.getElem?_setIfInBounds_self, if_pos (by omega)]
    rfl

section
variable {P : Program} {ops : Array Oper} {dp : List (List Nat)} {n m b : Nat}
theorem ready_iff {listed : Array Bool} {i : Nat} : i ∈ Region.ready .any ops listed ↔ ∃ o, ops[i]? = some o ∧ listed.getD i true = false ∧ ∀ e ∈ o.after.toList, Region.binds .any e = true → listed.getD e.on false = true := by
  unfold Region.ready
  rw [List.mem_filter, List.mem_range]
  constructor
  · rintro ⟨h1, h2⟩
    obtain ⟨o, ho⟩ : ∃ o, ops[i]? = some o := ⟨_, Array.getElem?_eq_getElem h1⟩
    rw [ho] at h2
    simp only [Bool.and_eq_true, Bool.not_eq_true', Option.map_some, Option.getD_some, Array.all_eq_true, Bool.or_eq_true] at h2
    refine ⟨o, ho, h2.1, fun e he hb => ?_⟩
    obtain ⟨j, hj, rfl⟩ := List.getElem_of_mem he
    have := h2.2 j (by simpa using hj)
    simp at hb
    simpa [hb] using this
  · rintro ⟨o, ho, h1, h2⟩
    refine ⟨(Array.getElem?_eq_some_iff.1 ho).1, ?_⟩
    rw [ho]
    simp only [Bool.and_eq_true, Bool.not_eq_true', Option.map_some, Option.getD_some, Array.all_eq_true, Bool.or_eq_true]
    refine ⟨h1, fun j hj => ?_⟩
    cases hb : Region.binds .any o.after[j] with
    | false => exact .inl rfl
    | true => exact .inr (h2 _ (by simp) hb)
theorem getD_tf {listed : Array Bool} {i : Nat} (hs : i < listed.size) : listed.getD i true = listed.getD i false := by
  simp [Array.getD_eq_getD_getElem?, Array.getElem?_eq_getElem hs]
theorem getD_set {listed : Array Bool} {i j : Nat} (hs : i < listed.size) : (listed.setIfInBounds i true).getD j false = if j = i then true else listed.getD j false := by
  simp only [Array.getD_eq_getD_getElem?]
  by_cases h : j = i
  · subst h
    rw [if_pos rfl, Array.getElem?_setIfInBounds_self, if_pos hs]
    rfl
  · rw [if_neg h, Array.getElem?_setIfInBounds_ne (by omega)]

/-- The ordered tail. -/
theorem tail_any (hO : DrawOk ops m dp) (hT : ∀ k, m ≤ k → k < ops.size → ∀ j, j < k → (dp.getD k []).contains j = true) {Q : St → Prop} : ∀ (fuel k : Nat) (listed : Array Bool) (S : St) (μ : Map) (a : Act) (w : World) (R : Exit → Act → World → Prop), m ≤ k → k ≤ ops.size → listed.size = ops.size → (∀ i, i < ops.size → listed.getD i false = decide (i < k)) → ops.size - k ≤ fuel →
    awOps P b ops Q (ops.toList.drop k) S → Env S μ a → Sim S.M μ w → (∀ S' μ' a' w', Q S' → Env S' μ' a' → Sim S'.M μ' w' → Step b S.M μ w S'.M μ' w' → R .normal a' w') → wpAny P .any ops R fuel listed a w := by
  intro fuel
  induction fuel with
  | zero =>
    intro k listed S μ a w R hm hk hs hl hf h hE hS hR
    obtain rfl : k = ops.size := by omega
    rw [List.drop_of_length_le (by simp)] at h
    refine ⟨?_, hR S μ a w h hE hS .refl⟩
    apply List.eq_nil_iff_forall_not_mem.2
    intro i hi
    obtain ⟨o, ho, h1, -⟩ := ready_iff.1 hi
    have hio := (Array.getElem?_eq_some_iff.1 ho).1
    rw [getD_tf (by omega), hl i hio] at h1
    simp at h1
    omega
  | succ fuel ih =>
    intro k listed S μ a w R hm hk hs hl hf h hE hS hR
    by_cases hke : k = ops.size
    · subst hke
      rw [List.drop_of_length_le (by simp)] at h
      have hnil : Region.ready .any ops listed = [] := by
        apply List.eq_nil_iff_forall_not_mem.2
        intro i hi
        obtain ⟨o, ho, h1, -⟩ := ready_iff.1 hi
        have hio := (Array.getElem?_eq_some_iff.1 ho).1
        rw [getD_tf (by omega), hl i hio] at h1
        simp at h1
        omega
      refine ⟨fun _ => hR S μ a w h hE hS .refl, fun i hi => by rw [hnil] at hi; cases hi⟩
    · have hk' : k < ops.size := by omega
      obtain ⟨o, ho⟩ : ∃ o, ops[k]? = some o := ⟨_, Array.getElem?_eq_getElem hk'⟩
      have hready : k ∈ Region.ready .any ops listed := ready_iff.2 ⟨o, ho, by rw [getD_tf (by omega), hl k hk']; simp, fun e he hb => by
        have := hO.back k o ho e he hb
        rw [hl e.on (by omega)]
        simpa using this⟩
      refine ⟨(fun h0 => by rw [h0] at hready; cases hready), fun i hi => ?_⟩
      have hik : i = k := by
        obtain ⟨o', ho', h1, h2⟩ := ready_iff.1 hi
        have hio := (Array.getElem?_eq_some_iff.1 ho').1
        rw [getD_tf (by omega), hl i hio] at h1
        have hge : k ≤ i := by simpa using h1
        rcases Nat.lt_or_ge k i with hlt | hge'
        · exfalso
          have hc := hT i (by omega) hio k hlt
          obtain ⟨-, e, he, hb, he2⟩ := hO.dep i o' ho' k hc
          have hle := h2 e he hb
          have heo := hO.back i o' ho' e he hb
          rw [hl e.on (by omega)] at hle
          have hek : e.on < k := by simpa using hle
          rcases he2 with he2 | he2
          · omega
          · obtain ⟨oe, hoe⟩ : ∃ oe, ops[e.on]? = some oe := ⟨_, Array.getElem?_eq_getElem (by omega)⟩
            have := (hO.dep e.on oe hoe k he2).1
            omega
        · omega
      subst hik
      have hdrop : ops.toList.drop i = o :: ops.toList.drop (i + 1) := by
        rw [List.drop_eq_getElem_cons (by simpa using hk')]
        congr 1
        have := (Array.getElem?_eq_some_iff.1 ho).2
        simpa using this
      rw [hdrop] at h
      have hl' : ∀ j, j < ops.size → (listed.setIfInBounds i true).getD j false = decide (j < i + 1) := by
        intro j hj
        rw [getD_set (by omega)]
        by_cases hji : j = i
        · rw [if_pos hji]; simp; omega
        · rw [if_neg hji, hl j hj]
          congr 1
          simp only [eq_iff_iff]
          omega
      unfold wpOp
      simp only [ho]
      have go : (awOp P false b o S fun v M' => awOps P b ops Q (ops.toList.drop (i + 1)) (St.put { S with M := M' } o.dst v)) → o.wp P a w (wpAny P .any ops R fuel (listed.setIfInBounds i true)) R := fun h' =>
        awOp_wp h' hE hS fun v M' c μ' w' hK hv hS' hst => ih (i + 1) _ _ μ' _ w' R (by omega) (by omega) (by simpa using hs) hl' (by omega) hK (hE.put hst hv o.dst) (by cases o.dst <;> exact hS')
          fun S'' μ'' a'' w'' q1 q2 q3 q4 => hR S'' μ'' a'' w'' q1 q2 q3 (hst.trans (by cases hd : o.dst <;> rw [hd] at q4 <;> exact q4))
      have skip : awOps P b ops Q (ops.toList.drop (i + 1)) (S.put o.dst undef) → wpAny P .any ops R fuel (listed.setIfInBounds i true) (a.put o.dst undef) w := fun h' => by
        have hE' := hE.put (b := b) (M' := S.M) (μ' := μ) (w := w) (w' := w) .refl (v := undef) (c := undef) (.tup rfl (fun i x y h => by simp at h)) o.dst
        exact ih (i + 1) _ _ μ _ w R (by omega) (by omega) (by simpa using hs) hl' (by omega) h' hE' (by cases o.dst <;> exact hS) fun S'' μ'' a'' w'' q1 q2 q3 q4 => hR S'' μ'' a'' w'' q1 q2 q3 (by cases hd : o.dst <;> rw [hd] at q4 <;> exact q4)
      simp only [awOps] at h
      cases hg : o.guard with
      | none =>
        rw [hg] at h
        rw [if_pos (by simp [Region.wanted, hg])]
        exact .inl (go h)
      | some jw =>
        obtain ⟨j, want⟩ := jw
        rw [hg] at h
        obtain ⟨g, hg1, h⟩ := ow_iff.1 h
        obtain ⟨t, ht, hget⟩ := Option.bind_eq_some_iff.1 hg1
        obtain ⟨c, hc1, hc2⟩ := get_rel hE hget
        have hy : yielded ops a.tmps j = match c with | .bool y => some y | _ => none := by
          unfold yielded
          rw [ht]
          simp only [Option.bind_some, hc1]
          cases c <;> rfl
        cases g <;> simp only at h <;> try exact h.elim
        · rename_i y
          have := hc2.bool
          subst this
          by_cases hyw : y = want
          · rw [if_pos (by simp [Region.wanted, hg, hy, hyw])]
            exact .inl (go (h.1 hyw))
          · rw [if_neg (by simp [Region.wanted, hg, hy, hyw])]
            exact skip (h.2 (by cases y <;> cases want <;> simp_all))
        · obtain ⟨ys, rfl, -⟩ := hc2.tup_inv
          rw [if_neg (by simp [Region.wanted, hg, hy])]
          exact skip h

variable {M0 : Mem} {μ0 : Map} {w0 : World} {T : Nat → List (Nat × Value)} {vs : Nat → Value} {Ns : List (List Slot)}
/-- The stable part, in any order, and the tail. -/
theorem stage_any (hO : DrawOk ops m dp) (hT : ∀ k, m ≤ k → k < ops.size → ∀ j, j < k → (dp.getD k []).contains j = true) (hU : Outs P ops dp n M0 m T vs Ns) {Q : St → Prop} {R : Exit → Act → World → Prop} (hQ : awOps P b ops Q (ops.toList.drop m) ⟨n, T m, M0 ++ Ns.flatten⟩)
    (hR : ∀ S' μ' a' w', Q S' → Env S' μ' a' → Sim S'.M μ' w' → Step b M0 μ0 w0 S'.M μ' w' → R .normal a' w') :
    ∀ (fuel : Nat) (listed : Array Bool) (μ : Map) (a : Act) (w : World), listed.size = ops.size → (∀ k, listed.getD k false = true → ∀ j, (dp.getD k []).contains j = true → listed.getD j false = true) → (∀ k, m ≤ k → listed.getD k false = false) →
      Inv ops dp n m b M0 μ0 w0 T vs Ns (fun j => listed.getD j false) μ a w → left_ ops listed ≤ fuel → wpAny P .any ops R fuel listed a w := by
  have hlen := hU.len
  -- when all stable operations are done
  have done : ∀ (fuel : Nat) (listed : Array Bool) (μ : Map) (a : Act) (w : World), listed.size = ops.size → (∀ k, m ≤ k → listed.getD k false = false) → (∀ k, k < m → listed.getD k false = true) →
      (∀ k, listed.getD k false = true → ∀ j, (dp.getD k []).contains j = true → listed.getD j false = true) →
      Inv ops dp n m b M0 μ0 w0 T vs Ns (fun j => listed.getD j false) μ a w → left_ ops listed ≤ fuel → wpAny P .any ops R fuel listed a w := by
    intro fuel listed μ a w hs hge hlt hcl hI hf
    have eA : MA M0 Ns (fun j => listed.getD j false) = M0 ++ Ns.flatten := by
      unfold MA
      rw [maskP_all _ _ _ fun i _ h2 => hlt i (by omega)]
    have hle := hO.le
    obtain ⟨l1, l2⟩ := look_T hO hU m (Nat.le_refl _)
    refine tail_any hO hT fuel m listed ⟨n, T m, M0 ++ Ns.flatten⟩ μ a w R (Nat.le_refl _) hle hs (fun i hi => ?_) ?_ hQ ⟨hI.size, fun t v hv ht => ?_, hI.defers⟩ (by rw [← eA]; exact hI.sim)
      fun S' μ' a' w' q1 q2 q3 q4 => hR S' μ' a' w' q1 q2 q3 ((by rw [← eA] at q4; exact hI.step.trans q4))
    · by_cases him : i < m
      · rw [hlt i him]; simp [him]
      · rw [hge i (by omega)]; simp [him]
    · refine Nat.le_trans ?_ hf
      unfold left_
      have : (List.range ops.size).countP (fun i => decide (m ≤ i)) ≤ (List.range ops.size).countP fun i => !listed.getD i true := by
        refine List.countP_mono_left fun i hi h => ?_
        have hio : i < ops.size := List.mem_range.1 hi
        rw [getD_tf (by omega), hge i (by simpa using h)]
        rfl
      refine Nat.le_trans ?_ this
      have cnt : ∀ N, N - m ≤ (List.range N).countP fun i => decide (m ≤ i) := by
        intro N
        induction N with
        | zero => simp
        | succ N ih =>
          rw [List.range_succ, List.countP_append]
          simp only [List.countP_cons, List.countP_nil]
          by_cases h : m ≤ N
          · simp [h]; omega
          · simp [h]; omega
      exact cnt ops.size
    · simp only at hv ht
      by_cases hex : ∃ j, j < m ∧ dstOf ops j = some t
      · obtain ⟨j, hj, hjt⟩ := hex
        rw [l1 j t hj hjt] at hv
        injection hv with hv
        subst hv
        obtain ⟨c, h1, h2⟩ := hI.e1 j t hj (hlt j hj) hjt ht
        refine ⟨c, h1, ?_⟩
        have := h2.sub (ME_subA (X := fun j => listed.getD j false) (by omega) (hlt j hj) (hcl j (hlt j hj)))
        rw [eA] at this
        exact this
      · have hall : ∀ j, j < m → dstOf ops j ≠ some t := fun j hj e => hex ⟨j, hj, e⟩
        rw [l2 t hall] at hv
        obtain ⟨c, h1, h2⟩ := hI.e0 t v hv ht hall
        exact ⟨c, h1, h2.sub sub0⟩
  intro fuel
  induction fuel with
  | zero =>
    intro listed μ a w hs hcl hge hI hf
    refine done 0 listed μ a w hs hge (fun k hk => ?_) hcl hI hf
    have hle := hO.le
    unfold left_ at hf
    have h0 : (List.range ops.size).countP (fun i => !listed.getD i true) = 0 := by omega
    rw [List.countP_eq_zero] at h0
    have := h0 k (List.mem_range.2 (by omega))
    rw [getD_tf (by omega)] at this
    simpa using this
  | succ fuel ih =>
    intro listed μ a w hs hcl hge hI hf
    by_cases hall : ∀ k, k < m → listed.getD k false = true
    · exact done (fuel + 1) listed μ a w hs hge hall hcl hI hf
    · have hle := hO.le
      have hex : ∃ k, k < m ∧ listed.getD k false = false := by
        rcases Classical.em (∃ k, k < m ∧ listed.getD k false = false) with h | h
        · exact h
        · exact absurd (fun k hk => by
            cases hv : listed.getD k false with
            | true => rfl
            | false => exact absurd ⟨k, hk, hv⟩ h) hall
      -- the least one that is not done is ready
      have hne : Region.ready .any ops listed ≠ [] := by
        have least : ∀ N k, k ≤ N → k < m → listed.getD k false = false → Region.ready .any ops listed ≠ [] := by
          intro N
          induction N with
          | zero =>
            intro k hk hkm hkl h0
            obtain rfl : k = 0 := by omega
            obtain ⟨o, ho⟩ : ∃ o, ops[0]? = some o := ⟨_, Array.getElem?_eq_getElem (by omega)⟩
            have : 0 ∈ Region.ready .any ops listed := ready_iff.2 ⟨o, ho, by rw [getD_tf (by omega)]; exact hkl, fun e he hb => by have := hO.back 0 o ho e he hb; omega⟩
            rw [h0] at this
            cases this
          | succ N ihN =>
            intro k hk hkm hkl h0
            by_cases hall : ∀ j, j < k → listed.getD j false = true
            · obtain ⟨o, ho⟩ : ∃ o, ops[k]? = some o := ⟨_, Array.getElem?_eq_getElem (by omega)⟩
              have : k ∈ Region.ready .any ops listed := ready_iff.2 ⟨o, ho, by rw [getD_tf (by omega)]; exact hkl, fun e he hb => hall _ (hO.back k o ho e he hb)⟩
              rw [h0] at this
              cases this
            · obtain ⟨j, hj⟩ := Classical.not_forall.1 hall
              have hjk : j < k := by
                rcases Nat.lt_or_ge j k with h | h
                · exact h
                · exact absurd (fun h' => by omega) hj
              refine ihN j (by omega) (by omega) ?_ h0
              cases hv : listed.getD j false with
              | false => rfl
              | true => exact absurd (fun _ => hv) hj
        obtain ⟨k, h1, h2⟩ := hex
        exact least k k (Nat.le_refl _) h1 h2
      refine ⟨fun h0 => absurd h0 hne, fun i hi => ?_⟩
      obtain ⟨o, ho, h1, h2⟩ := ready_iff.1 hi
      have hio := (Array.getElem?_eq_some_iff.1 ho).1
      have hd : ∀ j, (dp.getD i []).contains j = true → listed.getD j false = true := by
        intro j hj
        obtain ⟨-, e, he, hb, he2⟩ := hO.dep i o ho j hj
        rcases he2 with he2 | he2
        · rw [← he2]; exact h2 e he hb
        · exact hcl e.on (h2 e he hb) j he2
      have him : i < m := by
        rcases Nat.lt_or_ge i m with h | h
        · exact h
        · exfalso
          obtain ⟨k, hk1, hk2⟩ := hex
          have := hd k (hT i h hio k (by omega))
          rw [hk2] at this
          cases this
      have hX' : ∀ j, (listed.setIfInBounds i true).getD j false = if j = i then true else listed.getD j false := fun j => getD_set (by omega)
      refine hI.op (X' := fun j => (listed.setIfInBounds i true).getD j false) hO hU him (by rw [← getD_tf (by omega)]; exact h1) (by simp [hX']) (fun j hj => by simp [hX', hj]) hd hcl fun μ' a' w' hI' => ?_
      refine ih _ μ' a' w' (by simpa using hs) (fun k hk j hj => ?_) (fun k hk => ?_) hI' ?_
      · rw [hX'] at hk ⊢
        by_cases hji : j = i
        · rw [if_pos hji]
        · rw [if_neg hji]
          by_cases hki : k = i
          · subst hki; exact hd j hj
          · rw [if_neg hki] at hk; exact hcl k hk j hj
      · rw [hX', if_neg (by omega)]; exact hge k hk
      · have := left_lt hs hio h1
        omega
theorem awD_any {S : St} {Q : Ex → St → Prop} (hO : drawOk ops m dp = true)
    (h : awD P ops dp S.n S.M (fun S' => awOps P b ops (Q .normal) (ops.toList.drop m) S') (ops.toList.take m) 0 S.T []) : ∀ μ a w, Env S μ a → Sim S.M μ w → wpAny P .any ops (AQ b Q S.M μ w) ops.size (Array.replicate ops.size false) a { w with drawn := w.drawn + 1 } := by
  have hT := drawOk_tail hO
  have hO := drawOk_spec hO
  have hle := hO.le
  obtain ⟨T', vs', Ns', hU, hT0, hQ⟩ := awD_outs (P := P) (ops := ops) (dp := dp) (n := S.n) (M0 := S.M) (ops.toList.take m) 0 m (fun _ => S.T) (fun _ => undef) [] (fun i => by
    rw [List.getElem?_take, Nat.zero_add, List.length_take]
    by_cases hi : i < m
    · rw [if_pos hi, if_pos (by simp; omega)]; simp
    · rw [if_neg hi, if_neg (by omega)]) (by simp; omega) ⟨rfl, fun k o hk => by omega, fun k o hk => by omega⟩ h
  intro μ a w hE hS
  have hw : ({ w with drawn := w.drawn + 1 } : World).heap = w.heap := rfl
  have hS1 : Sim S.M μ { w with drawn := w.drawn + 1 } := hS.heap hw
  have hlen := hU.len
  have hmask : ∀ (i : Nat) s, (maskP Ns' 0 fun _ => false)[i]? = some s → s = .hole := by
    have key : ∀ (A : List (List Slot)) (j i : Nat) s, (maskP A j fun _ => false)[i]? = some s → s = .hole := by
      intro A
      induction A with
      | nil => intro j i s h; simp [maskP] at h
      | cons x A ih =>
        intro j i s h
        simp only [maskP] at h
        by_cases hi : i < (holes x).length
        · rw [if_neg (by simp), List.getElem?_append_left hi] at h
          exact holes_get h
        · rw [if_neg (by simp), List.getElem?_append_right (by omega)] at h
          exact ih _ _ _ h
    exact key Ns' 0
  have hX : (fun j => (Array.replicate ops.size false).getD j false) = fun _ => false := by
    funext j
    simp [Array.getD_eq_getD_getElem?, Array.getElem?_replicate]
    split <;> rfl
  have live0 : ∀ (i : Nat) r, (S.M ++ maskP Ns' 0 fun _ => false)[i]? = some (.live r) → S.M[i]? = some (.live r) := by
    intro i r hi
    by_cases hlt : i < S.M.length
    · rwa [List.getElem?_append_left hlt] at hi
    · rw [List.getElem?_append_right (by omega)] at hi
      cases hmask _ _ hi
  have hI : Inv ops dp S.n m b S.M μ w T' vs' Ns' (fun j => (Array.replicate ops.size false).getD j false) μ a { w with drawn := w.drawn + 1 } := by
    rw [hX]
    refine ⟨⟨fun i r hi => (hS1.row i r (live0 i r hi)).sub sub0, fun i j r s hi hj hne ho => hS1.inj i j r s (live0 i r hi) (live0 j s hj) hne ho, fun hon => ⟨(hS1.glob hon).1, (hS1.glob hon).2.1, fun i r hi ho => (hS1.glob hon).2.2 i r (live0 i r hi) ho⟩⟩,
      ⟨fun i s hs => ⟨s, (by unfold MA; rw [List.getElem?_append_left (List.getElem?_eq_some_iff.1 hs).1]; exact hs), Slot.evolves_refl _ _⟩, fun _ _ => ⟨rfl, rfl⟩, rfl, rfl, rfl, Nat.le_refl _, fun _ _ _ => rfl, fun i r hi hr => ?_⟩,
      hS1, (fun j _ h => by cases h), hE.size, hE.defers, fun t v hv ht _ => ?_, (fun j t _ h => by cases h)⟩
    · have := (List.getElem?_eq_some_iff.1 (live0 i r hr)).1
      omega
    · rw [hT0] at hv
      exact hE.val t v hv ht
  refine stage_any hO hT hU (b := b) (μ0 := μ) (w0 := w) hQ (fun S' μ' a' w' q1 q2 q3 q4 => ⟨.normal, S', μ', rfl, q1, q2, q3, q4⟩) ops.size _ μ a _ (by simp) (fun k hk => ?_) (fun k hk => ?_) hI ?_
  · rw [congrFun hX k] at hk; cases hk
  · exact congrFun hX k
  · unfold left_
    refine Nat.le_trans (List.countP_le_length) (by simp)
theorem awD_region {S : St} {id : Nat} {Q : Ex → St → Prop} (hm : P.follows .mixedOrders = true) (hO : drawOk ops m dp = true)
    (h : awD P ops dp S.n S.M (fun S' => awOps P b ops (Q .normal) (ops.toList.drop m) S') (ops.toList.take m) 0 S.T []) : AW P b (.region id ops true) Q S :=
  fun μ a w hE hS => wp_region_any hm (awD_any hO h μ a w hE hS)
end
end Go.Proofs.YtbpaeonfebmomaaDoor
