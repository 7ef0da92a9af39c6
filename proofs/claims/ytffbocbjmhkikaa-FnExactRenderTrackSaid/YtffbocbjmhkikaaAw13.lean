/- Regions that draw their order: any order does what the text's order does. No conditions. -/
import Derived.Test.YtffbocbjmhkikaaAw12
namespace Go.Proofs.Ytffbocbjmhkikaa
open Go.RowKit
set_option linter.unusedVariables false
set_option linter.unusedSimpArgs false

theorem maskP_part {p : Nat → Bool} : ∀ (Ns : List (List Slot)) (j0 : Nat) (L : List Slot) (i : Nat) (s : Slot), (L ++ maskP Ns j0 p)[i]? = some s → s.known = true →
    L[i]? = some s ∨ ∃ j off, j < Ns.length ∧ p (j0 + j) = true ∧ i = L.length + (maskP (Ns.take j) j0 p).length + off ∧ (Ns.getD j [])[off]? = some s
  | [], _, L, i, s, h, _ => by simp [maskP] at h; exact .inl h
  | s0 :: ss, j0, L, i, s, h, hk => by
    simp only [maskP] at h
    rw [← List.append_assoc] at h
    rcases maskP_part ss (j0 + 1) _ i s h hk with h1 | ⟨j, off, h1, h2, h3, h4⟩
    · by_cases hi : i < L.length
      · rw [List.getElem?_append_left hi] at h1; exact .inl h1
      · rw [List.getElem?_append_right (by omega)] at h1
        by_cases hp : p j0 = true
        · rw [if_pos hp] at h1
          exact .inr ⟨0, i - L.length, by simp, hp, by simp [maskP]; omega, by simpa using h1⟩
        · rw [if_neg hp] at h1
          rw [holes_get h1] at hk
          cases hk
    · refine .inr ⟨j + 1, off, by simpa using h1, by rwa [show j0 + (j + 1) = j0 + 1 + j by omega], ?_, by simpa using h4⟩
      rw [h3]
      simp only [List.take_succ_cons, maskP, List.length_append]
      omega

section
variable {P : Program} {ops : Array Oper} {dp : List (List Nat)} {n m b : Nat} {M0 : Mem} {μ0 : Map} {w0 : World} {T : Nat → List (Nat × Value)} {vs : Nat → Value} {Ns : List (List Slot)}
def MK (M0 : Mem) (dp : List (List Nat)) (Ns : List (List Slot)) (k : Nat) : Mem := M0 ++ maskP (Ns.take k) 0 fun j => (dp.getD k []).contains j
def ME (M0 : Mem) (dp : List (List Nat)) (Ns : List (List Slot)) (k : Nat) : Mem := MK M0 dp Ns k ++ Ns.getD k []
def MA (M0 : Mem) (Ns : List (List Slot)) (X : Nat → Bool) : Mem := M0 ++ maskP Ns 0 X
structure Inv (ops : Array Oper) (dp : List (List Nat)) (n m b : Nat) (M0 : Mem) (μ0 : Map) (w0 : World) (T : Nat → List (Nat × Value)) (vs : Nat → Value) (Ns : List (List Slot)) (X : Nat → Bool) (μ : Map) (a : Act) (w : World) : Prop where
  sim : Sim (MA M0 Ns X) μ w
  step : Step b M0 μ0 w0 (MA M0 Ns X) μ w
  sim0 : Sim M0 μ w
  simj : ∀ j, j < m → X j = true → Sim (ME M0 dp Ns j) μ w
  size : a.tmps.size = n
  defers : a.defers = []
  e0 : ∀ t v, look (T 0) t = some v → t < n → (∀ j, j < m → dstOf ops j ≠ some t) → ∃ c, a.tmps[t]? = some c ∧ VRel M0 μ v c
  e1 : ∀ j t, j < m → X j = true → dstOf ops j = some t → t < n → ∃ c, a.tmps[t]? = some c ∧ VRel (ME M0 dp Ns j) μ (vs j) c

theorem split_at {k : Nat} (hk : k < Ns.length) : Ns = Ns.take k ++ (Ns.getD k [] :: Ns.drop (k + 1)) := by
  have : Ns.drop k = Ns.getD k [] :: Ns.drop (k + 1) := by
    rw [List.drop_eq_getElem_cons hk]
    simp [List.getElem?_eq_getElem hk]
  rw [← this, List.take_append_drop]
theorem MA_split {k : Nat} (hk : k < Ns.length) (X : Nat → Bool) : MA M0 Ns X = (M0 ++ maskP (Ns.take k) 0 X) ++ ((if X k = true then Ns.getD k [] else holes (Ns.getD k [])) ++ maskP (Ns.drop (k + 1)) (k + 1) X) := by
  unfold MA
  have h : maskP Ns 0 X = maskP (Ns.take k ++ (Ns.getD k [] :: Ns.drop (k + 1))) 0 X := congrArg (fun l => maskP l 0 X) (split_at hk)
  rw [h, maskP_append]
  simp only [maskP, List.length_take, Nat.zero_add]
  rw [show min k Ns.length = k by omega, List.append_assoc]
theorem MK_sub {k : Nat} (hk : k < Ns.length) {X : Nat → Bool} (hX : ∀ j, (dp.getD k []).contains j = true → X j = true) : Sub (MK M0 dp Ns k) (M0 ++ maskP (Ns.take k) 0 X) :=
  .append rfl (.refl _) (maskP_sub _ _ fun i _ _ h => hX i h)
theorem ME_sub (hO : DrawOk ops m dp) {k j : Nat} (hk : k < m) (hm : Ns.length = m) (hko : k < ops.size) (hj : (dp.getD k []).contains j = true) : Sub (ME M0 dp Ns j) (MK M0 dp Ns k) := by
  obtain ⟨o, ho⟩ : ∃ o, ops[k]? = some o := ⟨_, Array.getElem?_eq_getElem hko⟩
  have hjk := (hO.dep k o ho j hj).1
  have hs : Ns.take k = Ns.take j ++ (Ns.getD j [] :: (Ns.take k).drop (j + 1)) := by
    have h := split_at (Ns := Ns.take k) (k := j) (by simp; omega)
    rw [List.take_take, show min j k = j by omega] at h
    have e : (Ns.take k).getD j [] = Ns.getD j [] := by simp [List.getElem?_take, hjk]
    rwa [e] at h
  unfold ME MK
  rw [hs, maskP_append]
  simp only [maskP, List.length_take, Nat.zero_add]
  rw [show min j Ns.length = j by omega, if_pos hj, ← List.append_assoc M0]
  refine .append ?_ (.append rfl (.refl _) (maskP_sub _ _ fun i _ _ h => hO.trans k hk j hj i h)) ((Sub.refl _).left _)
  simp only [List.length_append]
  rw [maskP_len]
theorem ME_subA {j : Nat} (hj : j < Ns.length) {X : Nat → Bool} (hX : X j = true) (hd : ∀ i, (dp.getD j []).contains i = true → X i = true) : Sub (ME M0 dp Ns j) (MA M0 Ns X) := by
  rw [MA_split hj, if_pos hX]
  refine .append ?_ (MK_sub hj hd) ((Sub.refl _).left _)
  unfold MK
  simp only [List.length_append]
  rw [maskP_len]
theorem sub0 {A : Mem} : Sub M0 (M0 ++ A) := (Sub.refl _).left _

theorem look_T (hO : DrawOk ops m dp) (hU : Outs P ops dp n M0 m T vs Ns) : ∀ k, k ≤ m → (∀ j t, j < k → dstOf ops j = some t → look (T k) t = some (vs j)) ∧ ∀ t, (∀ j, j < k → dstOf ops j ≠ some t) → look (T k) t = look (T 0) t := by
  intro k
  induction k with
  | zero => exact fun _ => ⟨fun j t hj => by omega, fun _ _ => rfl⟩
  | succ k ih =>
    intro hk
    obtain ⟨h1, h2⟩ := ih (by omega)
    obtain ⟨o, ho⟩ : ∃ o, ops[k]? = some o := ⟨_, Array.getElem?_eq_getElem (by have := hO.le; omega)⟩
    have he := hU.env k o (by omega) ho
    have hd : dstOf ops k = o.dst := by simp [dstOf, ho]
    rw [he]
    cases hdst : o.dst with
    | none =>
      rw [hdst] at hd
      simp only [St.put]
      refine ⟨fun j t hj hjt => ?_, fun t ht => h2 t fun j hj => ht j (by omega)⟩
      by_cases hjk : j = k
      · subst hjk; rw [hd] at hjt; cases hjt
      · exact h1 j t (by omega) hjt
    | some d =>
      rw [hdst] at hd
      simp only [St.put, look]
      refine ⟨fun j t hj hjt => ?_, fun t ht => ?_⟩
      · by_cases hjk : j = k
        · subst hjk
          rw [hd] at hjt
          injection hjt with hjt
          rw [if_pos hjt.symm]
        · have hne : t ≠ d := fun e => hO.apart k d j (by omega) hd (by omega) (by rw [hjt, e])
          rw [if_neg hne]
          exact h1 j t (by omega) hjt
      · have hne : t ≠ d := fun e => ht k (by omega) (by rw [hd, e])
        rw [if_neg hne]
        exact h2 t fun j hj => ht j (by omega)

/-- The environment of a stable operation, where all on which it hangs has been done. -/
theorem Inv.simK (hO : DrawOk ops m dp) (hU : Outs P ops dp n M0 m T vs Ns) {X : Nat → Bool} {μ : Map} {a : Act} {w : World} (h : Inv ops dp n m b M0 μ0 w0 T vs Ns X μ a w) {k : Nat} (hk : k < m) (hd : ∀ j, (dp.getD k []).contains j = true → X j = true) : Sim (MK M0 dp Ns k) μ w := by
  have hlen := hU.len
  have hko : k < ops.size := by have := hO.le; omega
  have hsub : Sub (MK M0 dp Ns k) (MA M0 Ns X) := by rw [MA_split (k := k) (by omega)]; exact (MK_sub (k := k) (by omega) hd).left _
  refine ⟨fun id r hr => ?_, fun i j r s hi hj hne ho => h.sim.inj i j r s (hsub i _ hi rfl) (hsub j _ hj rfl) hne ho⟩
  rcases maskP_part _ _ _ _ _ hr rfl with h1 | ⟨j, off, h1, h2, h3, h4⟩
  · exact (h.sim0.row id r h1).sub sub0
  · rw [Nat.zero_add] at h2
    obtain ⟨o, ho⟩ : ∃ o, ops[k]? = some o := ⟨_, Array.getElem?_eq_getElem hko⟩
    have hjk := (hO.dep k o ho j h2).1
    have hrow : (ME M0 dp Ns j)[id]? = some (.live r) := by
      unfold ME MK
      have hl : (M0 ++ maskP (Ns.take j) 0 fun i => (dp.getD j []).contains i).length = M0.length + (maskP ((Ns.take k).take j) 0 fun i => (dp.getD k []).contains i).length := by
        rw [List.length_append, List.take_take, show min j k = j by omega, maskP_len]
      rw [List.getElem?_append_right (by omega), hl, h3]
      have e : (Ns.take k).getD j [] = Ns.getD j [] := by simp [List.getElem?_take, hjk]
      rw [e] at h4
      rw [show M0.length + (maskP ((Ns.take k).take j) 0 fun i => (dp.getD k []).contains i).length + off - (M0.length + (maskP ((Ns.take k).take j) 0 fun i => (dp.getD k []).contains i).length) = off by omega]
      exact h4
    exact ((h.simj j (by omega) (hd j h2)).row id r hrow).sub (ME_sub hO hk hlen hko h2)
def keepK (ops : Array Oper) (dp : List (List Nat)) (m k : Nat) (t : Nat) : Bool := (dp.getD k []).any (fun j => dstOf ops j == some t) || (List.range m).all fun j => dstOf ops j != some t
theorem Inv.envK (hO : DrawOk ops m dp) (hU : Outs P ops dp n M0 m T vs Ns) {X : Nat → Bool} {μ : Map} {a : Act} {w : World} (h : Inv ops dp n m b M0 μ0 w0 T vs Ns X μ a w) {k : Nat} (hk : k < m) (hd : ∀ j, (dp.getD k []).contains j = true → X j = true) :
    Env ⟨n, (T k).filter fun e => keepK ops dp m k e.1, MK M0 dp Ns k⟩ μ a := by
  have hlen := hU.len
  have hko : k < ops.size := by have := hO.le; omega
  obtain ⟨o, ho⟩ : ∃ o, ops[k]? = some o := ⟨_, Array.getElem?_eq_getElem hko⟩
  obtain ⟨l1, l2⟩ := look_T hO hU k (by omega)
  refine ⟨h.size, fun t v hv ht => ?_, h.defers⟩
  simp only at hv ht
  rw [look_filter] at hv
  split at hv
  · rename_i hkeep
    unfold keepK at hkeep
    rw [Bool.or_eq_true] at hkeep
    rcases hkeep with hk1 | hk1
    · rw [List.any_eq_true] at hk1
      obtain ⟨j, hj, hjt⟩ := hk1
      have hjt : dstOf ops j = some t := by simpa using hjt
      have hjc : (dp.getD k []).contains j = true := by simpa using hj
      have hjk := (hO.dep k o ho j hjc).1
      rw [l1 j t hjk hjt] at hv
      injection hv with hv
      subst hv
      obtain ⟨c, h1, h2⟩ := h.e1 j t (by omega) (hd j hjc) hjt ht
      exact ⟨c, h1, h2.sub (ME_sub hO hk hlen hko hjc)⟩
    · rw [List.all_eq_true] at hk1
      have hall : ∀ j, j < m → dstOf ops j ≠ some t := fun j hj => by have := hk1 j (List.mem_range.2 hj); simpa using this
      rw [l2 t fun j hj => hall j (by omega)] at hv
      obtain ⟨c, h1, h2⟩ := h.e0 t v hv ht hall
      exact ⟨c, h1, h2.sub sub0⟩
  · cases hv
end
end Go.Proofs.Ytffbocbjmhkikaa
