/- Lists of lists are copied to rows of their own. No conditions. -/
import Derived.Test.YtffbocbjmhkikaaM1
namespace Go.Proofs.Ytffbocbjmhkikaa
open Go.RowKit
set_option linter.unusedVariables false
set_option linter.unusedSimpArgs false
set_option maxRecDepth 100000
attribute [local simp] List.getElem?_cons_zero
attribute [local irreducible] awCond awCall awLoop awDraw ow retQ retC resQ Keeps
section
variable {α : Type} {k : Nat} [Inhabited α]
theorem to_chainQ {P Q : RecP α k} {Mk : List Value → Value} {fn : FuncId} {e : TypeId} {z : List Value} {lo hi : Nat} {M : Mem} {A : Option Addr} {n : Nat} {l : List α} (h : SlP P lo hi M A n l) (hz : z.length = k) (hk : 0 < k)
    (hto : ∀ M1 i us, Keeps M M1 → i < n → P.rd lo hi M1 (el l i) us → ∃ vs N, Det Try.prog M1.length fn [Mk us] M1 (Mk vs) (M1 ++ N) ∧ Q.rd M1.length (M1 ++ N).length (M1 ++ N) (el l i) vs ∧ vs.all oneV = true ∧ (Mk vs).cells.toList = vs) :
    ∃ f : Nat → Mem, f 0 = M ++ [.live ⟨zrow z n, true, true, e, k⟩] ∧ (∀ j, j ≤ n → Keeps M (f j) ∧ M.length < (f j).length ∧ rowEsz (f j) M.length = some k) ∧
      (∀ j, j < n → ∀ id off us, A = some ⟨id, off, none⟩ → cellsAt M id (off + j * k) k = some us → ∃ vs N, Det Try.prog (f j).length fn [Mk us] (f j) (Mk vs) (f j ++ N) ∧ vs.length = k ∧ (Mk vs).cells.toList = vs ∧ putCells M.length (f j ++ N) M.length (j * k) vs = some (f (j + 1))) ∧
      ∃ N, f n = M ++ N ∧ PartS Q e z l M.length n n (f n) := by
  obtain ⟨f, f0, fI, fS⟩ := chain (n := n) (M0 := M ++ [.live ⟨zrow z n, true, true, e, k⟩]) (I := fun j M1 => Keeps M M1 ∧ M.length < M1.length ∧ PartS Q e z l M.length n j M1)
    (S := fun j M1 M2 => ∀ id off us, A = some ⟨id, off, none⟩ → cellsAt M id (off + j * k) k = some us → ∃ vs N, Det Try.prog M1.length fn [Mk us] M1 (Mk vs) (M1 ++ N) ∧ vs.length = k ∧ (Mk vs).cells.toList = vs ∧ putCells M.length (M1 ++ N) M.length (j * k) vs = some M2)
    ⟨keeps_app _, by simp, [], by simp, by simp, fun i hi => by omega⟩ fun j M1 hj ⟨hk1, hl1, hp⟩ => by
      obtain ⟨id, off, us, eA, he, hrd, hcl⟩ := h.at_ hj
      obtain ⟨vs, N, d1, d2, d3, d4⟩ := hto M1 j us hk1 hj (P.keeps hrd hk1)
      obtain ⟨M2, p1, p2, p3, p4⟩ := hp.step hj hz d2 d3 hl1
      refine ⟨M2, fun id' off' us' eA' hc' => ?_, ?_, by rw [p3, List.length_append]; omega, p2⟩
      · rw [eA] at eA'
        injection eA' with eA'
        injection eA' with e1 e2
        subst e1; subst e2
        rw [cellsAt_of hcl (P.len hrd) hk] at hc'
        injection hc' with hc'
        subst hc'
        exact ⟨vs, N, d1, Q.len d2, d4, p1⟩
      · unfold Keeps
        exact fun i s hs => p4 i s (by have := (List.getElem?_eq_some_iff.1 hs).1; omega) ((hk1.app N).get hs)
  obtain ⟨hkn, hln, cells, hr, hcl, hc⟩ := fI n (Nat.le_refl _)
  refine ⟨f, f0, fun j hj => ?_, fS, ?_⟩
  · obtain ⟨a, b, cells, hr, -⟩ := fI j hj
    exact ⟨a, b, by simp [rowEsz, hr]⟩
  · obtain ⟨N, hN⟩ := hkn.split
    exact ⟨N, hN, cells, hr, hcl, hc⟩
end
def tabO : RecP (List Int) 1 where
  rd := fun lo hi M l vs => ∃ id, vs = [.slice (some ⟨id, 0, none⟩) l.length l.length] ∧ lo ≤ id ∧ id < hi ∧ M[id]? = some (.live ⟨cellsL intR l, true, true, 2, 1⟩)
  len := fun ⟨_, h, _⟩ => by rw [h]; rfl
  agree := fun ⟨id, h1, h2, h3, h4⟩ hg => ⟨id, h1, h2, h3, hg _ _ h2 h3 h4⟩
  wide := fun ⟨id, h1, h2, h3, h4⟩ a b => ⟨id, h1, by omega, by omega, h4⟩
theorem toInt64S_o {M : Mem} {lo hi : Nat} {us : List Value} {x : List Int} (h : tabP.rd lo hi M x us) (hb : x.length ≤ 1048576) : ∃ vs N, Det Try.prog M.length 53 [one1 us] M (one1 vs) (M ++ N) ∧ tabO.rd M.length (M ++ N).length (M ++ N) x vs ∧ vs.all oneV = true ∧ (one1 vs).cells.toList = vs := by
  obtain ⟨u, rfl, A, n, c, rfl, h1, h2, h3⟩ := h
  have hl := h3.1
  subst hl
  exact ⟨[_], [.live ⟨cellsL intR x, true, true, 2, 1⟩], toInt64S_d h3.sl (by omega), ⟨M.length, rfl, Nat.le_refl _, by simp, by simp⟩, rfl, rfl⟩
theorem sso_of {M : Mem} {e : TypeId} {z : List Value} {l : List (List Int)} {b n : Nat} (h : PartS tabO e z l b n n M) (hl : l.length = n) (hn : n ≤ 1048576) (hb : b < M.length) : SSo b M.length M (.slice (some ⟨b, 0, none⟩) n n) l := by
  obtain ⟨cells, hr, hcl, hc⟩ := h
  rw [Nat.sub_self] at hr
  refine ⟨b, n, cells, e, rfl, hl, hn, Nat.le_refl _, hb, by simpa using hr, by rw [hcl, Nat.mul_one], fun i hi => ?_⟩
  obtain ⟨us, ⟨jd, rfl, g2, g3, g4⟩, hx⟩ := hc i hi
  have := hx 0 _ rfl
  simp only [Nat.mul_one, Nat.add_zero] at this
  exact ⟨jd, this, by omega, g3, g4⟩
theorem toInt64SS_o {M : Mem} {lo hi : Nat} {u : Value} {l : List (List Int)} (h : SlV tabP lo hi M u l) (hn : l.length ≤ 1048576) (hb : ∀ x, x ∈ l → x.length ≤ 1048576) : ∃ v N, Det Try.prog M.length 22 [u] M v (M ++ N) ∧ SSo M.length (M ++ N).length (M ++ N) v l := by
  obtain ⟨A, n, c, rfl, h1, h2, h3⟩ := h
  have hl := h3.1
  obtain ⟨f, f0, fI, fS, N, fN, hS⟩ := to_chainQ (P := tabP) (Q := tabO) (Mk := one1) (fn := 53) (e := 24) (z := [.slice none 0 0]) h3 rfl (by omega) (fun M1 i us hk hi hrd => toInt64S_o hrd (hb _ (el_mem (by omega))))
  have hN := fI n (Nat.le_refl _)
  rw [fN] at hS
  refine ⟨.slice (some ⟨M.length, 0, none⟩) n n, N, Ctr.det ?_, sso_of hS hl (by omega) (by have := hN.2.1; rwa [fN] at this)⟩
  first | (refine ctr_fn Try.func22 rfl Try.ntmps22 Try.results22 rfl rfl (by simp) ?_) | (refine ctr_fnC Try.func22 rfl Try.ntmps22 Try.results22 rfl (by simp) ?_)
  simp
  refine ⟨by omega, ?_⟩
  refine awLoop_T (fun m T M' => ∃ k : Nat, k + m = n ∧ M' = f k ∧ look T 4 = some (iv k) ∧ look T 0 = some (.slice A n c) ∧ look T 3 = some (.slice (some ⟨M.length, 0, none⟩) n n)) n ⟨0, by omega, by rw [f0], by simp, by simp, by simp⟩ ?_
  rintro m T M' ⟨k, hm, rfl, h4, h0, h3'⟩
  by_cases hlt : k < n
  · obtain ⟨id, off, us, rfl, he, hrd, hc⟩ := h3.at_ hlt
    obtain ⟨g1, g2, g3⟩ := fI k (by omega)
    obtain ⟨vs, N', d1, d2, d2', d3⟩ := fS k hlt id off us rfl (cellsAt_of hc (tabP.len hrd) (by omega))
    obtain ⟨u, rfl, hu⟩ := hrd
    have c1 := (cl_cons.1 hc).1
    simp only [Nat.mul_one] at c1
    have c2 := cellAt_keeps g1 c1
    simp (disch := omega) [h3', h4, h0, hlt, wrap_in, c2, g3, rowEsz_keeps g1 he]
    refine awCall_det' d1 (by omega) ?_
    have g4 : rowEsz (f k ++ N') M.length = some 1 := rowEsz_keeps (keeps_app _) g3
    have hsz : (one1 vs).cells.size = 1 := by rw [← Array.length_toList, d2', d2]
    try simp (disch := omega) [h3', h4, h0, g4, wrap_in, hlt]
    refine ⟨hsz.symm, ?_⟩
    simp only [Nat.mul_one] at d3
    try rw [d2']
    rw [d3, ow_some]
    try simp (disch := omega) [h3', h4, h0, wrap_in]
    exact lpI (m - 1) (by omega) ⟨k + 1, by omega, rfl, by simp, by simp [h0], by simp [h3']⟩
  · obtain rfl : k = n := by omega
    simp [h3', h4, h0]
    exact fN
/-- A list of numbers in a row of one's own. -/
theorem Acc.owl {e : TypeId} {B : Nat} {M : Mem} {v : Value} {l : List Int} (h : Acc intR e B M v l) (hn : l.length ≤ 1099511627776) : OwL intR B M.length M v l := by
  obtain ⟨A, n, c, rfl, hl, hA⟩ := h
  rcases hA with ⟨rfl, rfl, rfl⟩ | ⟨id, t, rfl, hid, hr⟩
  · exact ⟨none, 0, 0, rfl, by omega, ⟨hl, fun h => by omega⟩, (fun a e => by cases e), fun h => by omega⟩
  · refine ⟨_, n, c, rfl, by omega, ⟨hl, fun _ => ⟨id, 0, rfl, by simp [rowEsz, hr], fun j x hx => by simp [cellAt, hr, hx]⟩⟩, fun a e _ => ?_, fun _ => ⟨id, 0, _, rfl, hr, rfl⟩⟩
    injection e with e
    subst e
    exact ⟨hid, (List.getElem?_eq_some_iff.1 hr).1⟩
theorem mark_IntA {M : Mem} {b B : Nat} {e : TypeId} {v : Value} {l : List Int} {z : Int} (h : Acc intR e B M v l) (hb : b ≤ B) (hn : l.length ≤ 1048576) (hz : 0 ≤ z) (hz1 : z ≤ 1152921504606846976) :
    Ctr Try.prog b 30 [v, iv z] M fun r M' => r = iv (z + l.length) ∧ Acc intR e B M' v (markIL z l.length) ∧ Turn B M.length M M' := by
  obtain ⟨A, n, c, rfl, hl, hA⟩ := h
  rcases hA with ⟨rfl, rfl, rfl⟩ | ⟨id, t, rfl, hid, hr⟩
  · obtain rfl := List.eq_nil_of_length_eq_zero hl
    refine (markInt64S_0 z).mono ?_
    rintro r M' ⟨rfl, rfl⟩
    exact ⟨by simp, .nil, Nat.le_refl _, fun i s hs _ => hs⟩
  · have hlt := (List.getElem?_eq_some_iff.1 hr).1
    refine (markInt64S_r (off := 0) z hr (by omega) (by rw [cellsL_len]; omega) (by omega) hz hz1).mono ?_
    rintro r M' ⟨rfl, rfl⟩
    refine ⟨by rw [hl], ⟨_, n, c, rfl, by simp [markIL, hl], .inr ⟨id, t, rfl, hid, ?_⟩⟩, by simp, fun i s hs hd => ?_⟩
    · rw [List.getElem?_set_self hlt, List.drop_of_length_le (by rw [cellsL_len]; omega), hl]
      simp
    · rw [List.getElem?_set_ne (by omega)]
      exact hs
theorem held_IntA {M : Mem} {B m : Nat} {e : TypeId} {v : Value} {z : Int} (h : Acc intR e B M v (markIL z m)) (hn : m ≤ 1048576) (hz : 0 ≤ z) (hz1 : z ≤ 1152921504606846976) : Det Try.prog M.length 31 [v, iv z] M (iv (z + m)) M := by
  obtain ⟨A, n, c, rfl, hl, hS, -⟩ := h.sl
  have hm : m = n := by simpa [markIL] using hl
  subst hm
  exact heldInt64S_a z hS (by omega) hz hz1
end Go.Proofs.Ytffbocbjmhkikaa
