/- Regions that draw their order: the steps, and the whole. No conditions. -/
import Derived.Test.YtffbocbjmhkikaaAw13
namespace Go.Proofs.Ytffbocbjmhkikaa
open Go.RowKit
set_option linter.unusedVariables false
set_option linter.unusedSimpArgs false

section
variable {P : Program} {ops : Array Oper} {dp : List (List Nat)} {n m b : Nat} {M0 : Mem} {μ0 : Map} {w0 : World} {T : Nat → List (Nat × Value)} {vs : Nat → Value} {Ns : List (List Slot)}

theorem put_get {a : Act} {d : Option Tmp} {c : Value} {t : Nat} (h : d ≠ some t) : (a.put d c).tmps[t]? = a.tmps[t]? := by
  cases d with
  | none => rfl
  | some d =>
    simp only [Act.put]
    rw [Array.getElem?_setIfInBounds_ne (fun e => h (by rw [e]))]
theorem put_same {a : Act} {t : Tmp} {c : Value} (h : t < a.tmps.size) : (a.put (some t) c).tmps[t]? = some c := by
  simp only [Act.put]
  rw [Array.getElem?_setIfInBounds_self, if_pos h]

/-- One stable operation more has been done. -/
theorem Inv.next (hO : DrawOk ops m dp) (hU : Outs P ops dp n M0 m T vs Ns) {X X' : Nat → Bool} {μ μ2 : Map} {a : Act} {w w' : World} {k : Nat} {o : Oper} {c : Value}
    (h : Inv ops dp n m b M0 μ0 w0 T vs Ns X μ a w) (hk : k < m) (ho : ops[k]? = some o) (hXk : X k = false) (hX' : X' k = true) (hX : ∀ j, j ≠ k → X' j = X j) (hd : ∀ j, (dp.getD k []).contains j = true → X j = true)
    (hclos : ∀ k, X k = true → ∀ j, (dp.getD k []).contains j = true → X j = true)
    (hsim : Sim (MA M0 Ns X') μ2 w') (hstep : Step b M0 μ0 w0 (MA M0 Ns X') μ2 w') (hm1 : MapEq (MA M0 Ns X) μ μ2) (hblk : ∀ k, k < w.heap.size → w'.heap[k]? = w.heap[k]?) (hsz : w.heap.size ≤ w'.heap.size)
    (hME : Sim (ME M0 dp Ns k) μ2 w') (hv : VRel (ME M0 dp Ns k) μ2 (vs k) c) : Inv ops dp n m b M0 μ0 w0 T vs Ns X' μ2 (a.put o.dst c) w' := by
  have hlen := hU.len
  have hdk : dstOf ops k = o.dst := by simp [dstOf, ho]
  have mj : ∀ j, j < m → X j = true → MapEq (ME M0 dp Ns j) μ μ2 := fun j hj hXj i s hi hs => hm1 i s (ME_subA (by omega) hXj (hclos j hXj) i s hi hs) hs
  have m0 : MapEq M0 μ μ2 := fun i s hi hs => hm1 i s (sub0 i s hi hs) hs
  refine ⟨hsim, hstep, (h.sim0.grow hblk hsz).remap m0, fun j hj hXj => ?_, by cases hdd : o.dst <;> simp [Act.put, h.size], by cases hdd : o.dst <;> simp [Act.put, h.defers], fun t v hv' ht hall => ?_, fun j t hj hXj hjt ht => ?_⟩
  · by_cases hjk : j = k
    · subst hjk; exact hME
    · rw [hX j hjk] at hXj
      exact ((h.simj j hj hXj).grow hblk hsz).remap (mj j hj hXj)
  · obtain ⟨c0, h1, h2⟩ := h.e0 t v hv' ht hall
    refine ⟨c0, ?_, h2.remap m0⟩
    rw [put_get (by rw [← hdk]; exact hall k hk)]
    exact h1
  · by_cases hjk : j = k
    · subst hjk
      refine ⟨c, ?_, hv⟩
      rw [hdk] at hjt
      rw [hjt]
      exact put_same (by rw [h.size]; exact ht)
    · rw [hX j hjk] at hXj
      obtain ⟨c0, h1, h2⟩ := h.e1 j t hj hXj hjt ht
      refine ⟨c0, ?_, h2.remap (mj j hj hXj)⟩
      rw [put_get]
      · exact h1
      · rw [← hdk]
        intro e
        rcases Nat.lt_or_ge j k with hlt | hge
        · exact hO.apart k t j hk e hlt hjt
        · exact hO.apart j t k hj hjt (by omega) e

/-- A stable operation, all on which it hangs being done. -/
theorem Inv.op (hO : DrawOk ops m dp) (hU : Outs P ops dp n M0 m T vs Ns) {X X' : Nat → Bool} {μ : Map} {a : Act} {w : World} {k : Nat} {R : Exit → Act → World → Prop} {K : Act → World → Prop}
    (h : Inv ops dp n m b M0 μ0 w0 T vs Ns X μ a w) (hk : k < m) (hXk : X k = false) (hX' : X' k = true) (hX : ∀ j, j ≠ k → X' j = X j) (hd : ∀ j, (dp.getD k []).contains j = true → X j = true)
    (hclos : ∀ k, X k = true → ∀ j, (dp.getD k []).contains j = true → X j = true)
    (hK : ∀ μ' a' w', Inv ops dp n m b M0 μ0 w0 T vs Ns X' μ' a' w' → K a' w') : wpOp P ops R k K a w := by
  have hlen := hU.len
  have hko : k < ops.size := by have := hO.le; omega
  obtain ⟨o, ho⟩ : ∃ o, ops[k]? = some o := ⟨_, Array.getElem?_eq_getElem hko⟩
  have hS := h.simK hO hU hk hd
  have hE := h.envK hO hU hk hd
  obtain ⟨l1, l2⟩ := look_T hO hU k (by omega)
  have hout := hU.out k o hk ho
  simp only at hout
  unfold wpOp
  simp only [ho]
  have eX : MA M0 Ns X = (M0 ++ maskP (Ns.take k) 0 X) ++ (holes (Ns.getD k []) ++ maskP (Ns.drop (k + 1)) (k + 1) X) := by rw [MA_split (k := k) (by omega), hXk]; rfl
  have eX' : MA M0 Ns X' = (M0 ++ maskP (Ns.take k) 0 X) ++ (Ns.getD k [] ++ maskP (Ns.drop (k + 1)) (k + 1) X) := by
    rw [MA_split (k := k) (by omega), hX', if_pos rfl]
    rw [maskP_congr (p := X') (q := X) (Ns.take k) 0 fun i _ h2 => hX i (by simp at h2; omega), maskP_congr (p := X') (q := X) (Ns.drop (k + 1)) (k + 1) fun i h1 _ => hX i (by omega)]
  have run : (∃ M', Ns[k]? = some (M'.drop (MK M0 dp Ns k).length) ∧ ∀ K' : Value → Mem → Prop, K' (vs k) M' → awOp P true (MK M0 dp Ns k).length o ⟨n, T k, MK M0 dp Ns k⟩ K') → o.wp P a w K R := by
    rintro ⟨M', hN, hop⟩
    have hop' : awOp P true (MK M0 dp Ns k).length o ⟨n, (T k).filter fun e => keepK ops dp m k e.1, MK M0 dp Ns k⟩ (fun v M'' => v = vs k ∧ M'' = M') := by
      refine awOp_congr (S := ⟨n, T k, MK M0 dp Ns k⟩) rfl (fun x hx => ?_) (hop _ ⟨rfl, rfl⟩)
      cases x with
      | tmp t =>
        simp only [St.ev, St.get]
        split
        · rw [look_filter, if_pos]
          unfold keepK
          rw [Bool.or_eq_true]
          by_cases hex : ∃ j, j < m ∧ dstOf ops j = some t
          · obtain ⟨j, hj, hjt⟩ := hex
            left
            rw [List.any_eq_true]
            exact ⟨j, by simpa using hO.reads k o hk ho t hx j hj hjt, by simp [hjt]⟩
          · right
            rw [List.all_eq_true]
            intro j hj
            have : dstOf ops j ≠ some t := fun e => hex ⟨j, by simpa using hj, e⟩
            simpa using this
        · rfl
      | _ => rfl
    refine awOp_wp hop' hE hS fun v M'' c μ' w' hvM hv hS' hst => ?_
    obtain ⟨rfl, rfl⟩ := hvM
    simp only at hst hS' hv
    -- the new memory is the old one and more
    have hext : M'' = MK M0 dp Ns k ++ Ns.getD k [] := by
      have e1 : Ns.getD k [] = M''.drop (MK M0 dp Ns k).length := by rw [List.getD_eq_getElem?_getD, hN]; rfl
      rw [e1]
      have e2 : M''.take (MK M0 dp Ns k).length = MK M0 dp Ns k := by
        apply List.ext_getElem?
        intro i
        rw [List.getElem?_take]
        by_cases hi : i < (MK M0 dp Ns k).length
        · rw [if_pos hi]
          obtain ⟨s', h1, h2⟩ := hst.slot i _ (List.getElem?_eq_getElem hi)
          rw [h1, List.getElem?_eq_getElem hi]
          congr 1
          generalize (MK M0 dp Ns k)[i] = s at h2
          cases s <;> cases s' <;> simp_all [Slot.evolves]
        · rw [if_neg hi, List.getElem?_eq_none (by omega)]
      conv => lhs; rw [← List.take_append_drop (MK M0 dp Ns k).length M'', e2]
    subst hext
    have hl : (MK M0 dp Ns k).length = (M0 ++ maskP (Ns.take k) 0 X).length := by
      unfold MK
      simp only [List.length_append]
      rw [maskP_len]
    obtain ⟨μ2, s1, s2, s3, s4⟩ := Sim.merge (b := b) (M0 := M0) (μ0 := μ0) (w0 := w0) hl (MK_sub (by omega) hd) (by rw [← eX]; exact h.sim) hS' hst (by simp) (by rw [← eX]; exact h.step)
    rw [← eX'] at s1 s2
    rw [← eX] at s3
    have hblk : ∀ i, i < w.heap.size → w'.heap[i]? = w.heap[i]? := fun i hi => hst.block i hi fun j r hj hr _ => absurd (List.getElem?_eq_some_iff.1 hr).1 (by omega)
    exact hK μ2 _ w' (h.next hO hU hk ho hXk hX' hX hd hclos s1 s2 s3 hblk hst.size (hS'.remap s4) (hv.remap s4))
  have skip : vs k = undef → Ns[k]? = some [] → K (a.put o.dst undef) w := by
    intro e1 e2
    have eN : Ns.getD k [] = [] := by rw [List.getD_eq_getElem?_getD, e2]; rfl
    have eA : MA M0 Ns X' = MA M0 Ns X := by rw [eX, eX', eN]; rfl
    have eE : ME M0 dp Ns k = MK M0 dp Ns k := by unfold ME; rw [eN, List.append_nil]
    exact hK μ _ w (h.next hO hU hk ho hXk hX' hX hd hclos (by rw [eA]; exact h.sim) (by rw [eA]; exact h.step) (fun _ _ _ _ => ⟨rfl, rfl⟩) (fun _ _ => rfl) (Nat.le_refl _) (by rw [eE]; exact hS) (by rw [e1]; exact .tup rfl (fun i x y h => by simp at h)))
  unfold awG at hout
  cases hg : o.guard with
  | none =>
    rw [hg] at hout
    rw [if_pos (by simp [Region.wanted, hg])]
    exact .inl (run hout)
  | some jw =>
    obtain ⟨j, want⟩ := jw
    rw [hg] at hout
    obtain ⟨g, hg1, hout⟩ := ow_iff.1 hout
    obtain ⟨t, ht, hget⟩ := Option.bind_eq_some_iff.1 hg1
    have hjc := hO.guard k o j want hk ho hg
    have hjk := (hO.dep k o ho j hjc).1
    simp only [St.get] at hget
    split at hget
    · rename_i htn
      rw [l1 j t hjk ht] at hget
      injection hget with hget
      subst hget
      obtain ⟨c, hc1, hc2⟩ := h.e1 j t (by omega) (hd j hjc) ht htn
      have hy : yielded ops a.tmps j = match c with | .bool y => some y | _ => none := by
        unfold yielded
        have ht' : ((ops[j]?).bind (·.dst)) = some t := ht
        rw [ht']
        simp only [Option.bind_some, hc1]
        cases c <;> rfl
      cases hvj : vs j <;> rw [hvj] at hout hc2 <;> simp only at hout <;> try exact hout.elim
      · rename_i y
        have := hc2.bool
        subst this
        by_cases hyw : y = want
        · rw [if_pos (by simp [Region.wanted, hg, hy, hyw])]
          exact .inl (run (hout.1 hyw))
        · rw [if_neg (by simp [Region.wanted, hg, hy, hyw])]
          obtain ⟨e1, e2⟩ := hout.2 (by cases y <;> cases want <;> simp_all)
          exact skip e1 e2
      · obtain ⟨ys, rfl, -⟩ := hc2.tup_inv
        rw [if_neg (by simp [Region.wanted, hg, hy])]
        exact skip hout.1 hout.2
    · cases hget
end
end Go.Proofs.Ytffbocbjmhkikaa
