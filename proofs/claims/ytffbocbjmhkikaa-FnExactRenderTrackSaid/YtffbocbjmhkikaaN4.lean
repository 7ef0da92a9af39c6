/- Slices of nested values are made anew, one element behind the other. No conditions. -/
import Derived.Test.YtffbocbjmhkikaaN3
namespace Go.Proofs.Ytffbocbjmhkikaa
open Go.RowKit
set_option linter.unusedVariables false
set_option linter.unusedSimpArgs false
set_option maxRecDepth 100000
attribute [local simp] List.getElem?_cons_zero
attribute [local irreducible] awCond awCall awLoop awDraw ow retQ retC resQ Keeps
section
variable {α : Type} {k : Nat} [Inhabited α]
theorem put_at_row {b : Nat} {M : Mem} {id p : Nat} {vs cs : List Value} {t : Bool} {e : TypeId} {z : Nat} (hr : M[id]? = some (.live ⟨cs, true, t, e, z⟩)) (hb : b ≤ id) (hp : p + vs.length ≤ cs.length) (h1 : vs.all oneV = true) :
    putCells b M id p vs = some (M.set id (.live ⟨splice cs p vs, true, t, e, z⟩)) := by
  unfold putCells
  rw [hr]
  simp only
  rw [if_pos ⟨hb, trivial, hp, h1⟩]
def PartS (P : RecP α k) (e : TypeId) (z : List Value) (l : List α) (b n j : Nat) (M1 : Mem) : Prop :=
  ∃ cells, M1[b]? = some (.live ⟨cells ++ zrow z (n - j), true, true, e, k⟩) ∧ cells.length = j * k ∧ ∀ i, i < j → ∃ us, P.rd (b + 1) M1.length M1 (el l i) us ∧ ∀ (t : Nat) x, us[t]? = some x → cells[i * k + t]? = some x
theorem PartS.step {P : RecP α k} {e : TypeId} {z : List Value} {l : List α} {b n j : Nat} {M1 N : Mem} {vs : List Value} (h : PartS P e z l b n j M1) (hj : j < n) (hz : z.length = k) (hv : P.rd M1.length (M1 ++ N).length (M1 ++ N) (el l j) vs) (h1 : vs.all oneV = true) (hb : b < M1.length) :
    ∃ M2, putCells b (M1 ++ N) b (j * k) vs = some M2 ∧ PartS P e z l b n (j + 1) M2 ∧ M2.length = (M1 ++ N).length ∧ ∀ (i : Nat) s, i ≠ b → (M1 ++ N)[i]? = some s → M2[i]? = some s := by
  obtain ⟨cells, hr, hl, hc⟩ := h
  have hvl := P.len hv
  have hr' : (M1 ++ N)[b]? = some (.live ⟨cells ++ zrow z (n - j), true, true, e, k⟩) := by rw [List.getElem?_append_left hb]; exact hr
  have hzr : zrow z (n - j) = z ++ zrow z (n - (j + 1)) := by rw [show n - j = n - (j + 1) + 1 by omega, zrow_succ]
  have hput := put_at_row (b := b) (p := j * k) (vs := vs) hr' (Nat.le_refl _) (by rw [hzr]; simp only [List.length_append]; omega) h1
  have hsp : splice (cells ++ zrow z (n - j)) (j * k) vs = cells ++ vs ++ zrow z (n - (j + 1)) := by
    rw [← hl, splice_app _ _ _ (by rw [hzr, List.length_append]; omega), hzr, hvl, List.drop_append_of_le_length (by omega), List.drop_of_length_le (by omega)]
    simp
  rw [hsp] at hput
  have hoth : ∀ (i : Nat) s, i ≠ b → (M1 ++ N)[i]? = some s → ((M1 ++ N).set b (.live ⟨cells ++ vs ++ zrow z (n - (j + 1)), true, true, e, k⟩))[i]? = some s := fun i s hi hs => by rw [List.getElem?_set_ne (Ne.symm hi)]; exact hs
  have hag : ∀ {hi : Nat}, Agree (b + 1) hi (M1 ++ N) ((M1 ++ N).set b (.live ⟨cells ++ vs ++ zrow z (n - (j + 1)), true, true, e, k⟩)) := fun {hi} i s h2 h3 hs => hoth i s (by omega) hs
  refine ⟨_, hput, ⟨cells ++ vs, List.getElem?_set_self (by simp; omega), by rw [List.length_append, hl, hvl, Nat.add_mul, Nat.one_mul], fun i hi => ?_⟩, by simp, hoth⟩
  by_cases hij : i < j
  · obtain ⟨us, h2, h3⟩ := hc i hij
    refine ⟨us, P.agree (P.wide (P.app h2 N) (Nat.le_refl _) (by simp)) hag, fun t x hx => ?_⟩
    have := h3 t x hx
    rw [List.getElem?_append_left (List.getElem?_eq_some_iff.1 this).1]
    exact this
  · have : i = j := by omega
    subst this
    refine ⟨vs, P.agree (P.wide hv (by omega) (by simp)) hag, fun t x hx => ?_⟩
    rw [List.getElem?_append_right (by omega), hl, show i * k + t - i * k = t by omega]
    exact hx
theorem to_chain {P : RecP α k} {Mk : List Value → Value} {fn : FuncId} {e : TypeId} {z : List Value} {lo hi : Nat} {M : Mem} {A : Option Addr} {n : Nat} {l : List α} (h : SlP P lo hi M A n l) (hz : z.length = k) (hk : 0 < k)
    (hto : ∀ M1 i us, Keeps M M1 → i < n → P.rd lo hi M1 (el l i) us → ∃ vs N, Det Try.prog M1.length fn [Mk us] M1 (Mk vs) (M1 ++ N) ∧ P.rd M1.length (M1 ++ N).length (M1 ++ N) (el l i) vs ∧ vs.all oneV = true ∧ (Mk vs).cells.toList = vs) :
    ∃ f : Nat → Mem, f 0 = M ++ [.live ⟨zrow z n, true, true, e, k⟩] ∧ (∀ j, j ≤ n → Keeps M (f j) ∧ M.length < (f j).length ∧ rowEsz (f j) M.length = some k) ∧
      (∀ j, j < n → ∀ id off us, A = some ⟨id, off, none⟩ → cellsAt M id (off + j * k) k = some us → ∃ vs N, Det Try.prog (f j).length fn [Mk us] (f j) (Mk vs) (f j ++ N) ∧ vs.length = k ∧ (Mk vs).cells.toList = vs ∧ putCells M.length (f j ++ N) M.length (j * k) vs = some (f (j + 1))) ∧
      ∃ N, f n = M ++ N ∧ SlP P M.length (f n).length (f n) (some ⟨M.length, 0, none⟩) n l := by
  obtain ⟨f, f0, fI, fS⟩ := chain (n := n) (M0 := M ++ [.live ⟨zrow z n, true, true, e, k⟩]) (I := fun j M1 => Keeps M M1 ∧ M.length < M1.length ∧ PartS P e z l M.length n j M1)
    (S := fun j M1 M2 => ∀ id off us, A = some ⟨id, off, none⟩ → cellsAt M id (off + j * k) k = some us → ∃ vs N, Det Try.prog M1.length fn [Mk us] M1 (Mk vs) (M1 ++ N) ∧ vs.length = k ∧ (Mk vs).cells.toList = vs ∧ putCells M.length (M1 ++ N) M.length (j * k) vs = some M2)
    ⟨keeps_app _, by simp, [], by simp, by simp, fun i hi => by omega⟩ fun j M1 hj ⟨hk1, hl1, hp⟩ => by
      obtain ⟨id, off, us, eA, he, hrd, hcl⟩ := h.at_ hj
      obtain ⟨vs, N, d1, d2, d3, d4⟩ := hto M1 j us hk1 hj (P.keeps hrd hk1)
      obtain ⟨M2, p1, p2, p3, p4⟩ := hp.step hj hz d2 d3 hl1
      refine ⟨M2, fun id' off' us' eA' hc' => ?_, ?_, by rw [p3, List.length_append]; omega, p2⟩
      · rw [eA] at eA'
        injection eA' with eA'
        injection eA' with e1 e2
        subst e1; subst e2
        rw [cellsAt_of hcl (P.len hrd) hk] at hc'
        injection hc' with hc'
        subst hc'
        exact ⟨vs, N, d1, P.len d2, d4, p1⟩
      · unfold Keeps
        exact fun i s hs => p4 i s (by have := (List.getElem?_eq_some_iff.1 hs).1; omega) ((hk1.app N).get hs)
  obtain ⟨hkn, hln, cells, hr, hcl, hc⟩ := fI n (Nat.le_refl _)
  refine ⟨f, f0, fun j hj => ?_, fS, ?_⟩
  · obtain ⟨a, b, cells, hr, -⟩ := fI j hj
    exact ⟨a, b, by simp [rowEsz, hr]⟩
  · obtain ⟨N, hN⟩ := hkn.split
    refine ⟨N, hN, h.1, fun hn => ⟨M.length, 0, rfl, Nat.le_refl _, hln, by simp [rowEsz, hr], fun i hi => ?_⟩⟩
    obtain ⟨us, h1, h2⟩ := hc i hi
    refine ⟨us, P.wide h1 (by omega) (Nat.le_refl _), fun t x hx => ?_⟩
    have := h2 t x hx
    simp only [cellAt, hr]
    rw [Nat.sub_self, Nat.zero_add]
    simpa using this
end
end Go.Proofs.Ytffbocbjmhkikaa
