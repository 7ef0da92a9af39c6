/- Parts of the proof, together: The laws' copies of nested values lie in rows of their own. Marks on lists of numbers, and on lists of them. Marks on nested values: only numbers turn. Lists of lists are copied to rows of their own. The lists that ControlsOf hands back: equal, marked, held. No conditions. -/
import Derived.Test.YtimijeeihicohaaGreatZzPf10
import Derived.Test.YtimijeeihicohaaGreatZzPf9
import Derived.Test.YtimijeeihicohaaGreatZzPf16
namespace Go.Proofs.YtimijeeihicohaaGreat
open Go.RowKit
set_option linter.unusedVariables false
set_option linter.unusedSimpArgs false
set_option maxRecDepth 100000
attribute [local simp] List.getElem?_cons_zero
attribute [local irreducible] awCond awCall awLoop awDraw ow retQ retC resQ Keeps
def OwnN (N : Mem) : Prop := ∀ (i : Nat) r, N[i]? = some (.live r) → r.own = true
theorem ownN_nil : OwnN [] := fun i r h => by simp at h
theorem OwnN.app {A B : Mem} (h : OwnN A) (h' : OwnN B) : OwnN (A ++ B) := fun i r hr => by
  by_cases hi : i < A.length
  · rw [List.getElem?_append_left hi] at hr
    exact h i r hr
  · rw [List.getElem?_append_right (by omega)] at hr
    exact h' _ r hr
theorem OwnN.cons {s : Slot} {B : Mem} (h : ∀ r, s = .live r → r.own = true) (h' : OwnN B) : OwnN (s :: B) := fun i r hr => by
  cases i with
  | zero => simp at hr; exact h r hr
  | succ i => exact h' i r (by simpa using hr)
theorem OwnN.live {r : Row} {B : Mem} (h : r.own = true) (h' : OwnN B) : OwnN (.live r :: B) := .cons (fun r' e => by injection e with e; rw [← e]; exact h) h'
def OwnA (b : Nat) (M : Mem) : Prop := ∀ (i : Nat) r, b ≤ i → M[i]? = some (.live r) → r.own = true
theorem OwnN.a {M N : Mem} (h : OwnN N) : OwnA M.length (M ++ N) := fun i r hi hr => by
  rw [List.getElem?_append_right hi] at hr
  exact h _ r hr
theorem OwnA.n {M N : Mem} (h : OwnA M.length (M ++ N)) : OwnN N := fun i r hr => h (M.length + i) r (by omega) (by rw [List.getElem?_append_right (by omega), Nat.add_sub_cancel_left]; exact hr)
theorem OwnA.app {b : Nat} {M N : Mem} (h : OwnA b M) (h' : OwnN N) : OwnA b (M ++ N) := fun i r hi hr => by
  by_cases hl : i < M.length
  · rw [List.getElem?_append_left hl] at hr
    exact h i r hi hr
  · rw [List.getElem?_append_right (by omega)] at hr
    exact h' _ r hr
section
variable {α : Type} {k : Nat} [Inhabited α]
theorem to_chainW {P : RecP α k} {Mk : List Value → Value} {fn : FuncId} {e : TypeId} {z : List Value} {lo hi : Nat} {M : Mem} {A : Option Addr} {n : Nat} {l : List α} (h : SlP P lo hi M A n l) (hz : z.length = k) (hk : 0 < k)
    (hto : ∀ M1 i us, Keeps M M1 → i < n → P.rd lo hi M1 (el l i) us → ∃ vs N, Det Tryz.prog M1.length fn [Mk us] M1 (Mk vs) (M1 ++ N) ∧ P.rd M1.length (M1 ++ N).length (M1 ++ N) (el l i) vs ∧ vs.all oneV = true ∧ (Mk vs).cells.toList = vs ∧ OwnN N) :
    ∃ f : Nat → Mem, f 0 = M ++ [.live ⟨zrow z n, true, true, e, k⟩] ∧ (∀ j, j ≤ n → Keeps M (f j) ∧ M.length < (f j).length ∧ rowEsz (f j) M.length = some k) ∧
      (∀ j, j < n → ∀ id off us, A = some ⟨id, off, none⟩ → cellsAt M id (off + j * k) k = some us → ∃ vs N, Det Tryz.prog (f j).length fn [Mk us] (f j) (Mk vs) (f j ++ N) ∧ vs.length = k ∧ (Mk vs).cells.toList = vs ∧ putCells M.length (f j ++ N) M.length (j * k) vs = some (f (j + 1))) ∧
      ∃ N, f n = M ++ N ∧ SlP P M.length (f n).length (f n) (some ⟨M.length, 0, none⟩) n l ∧ OwnN N := by
  obtain ⟨f, f0, fI, fS⟩ := chain (n := n) (M0 := M ++ [.live ⟨zrow z n, true, true, e, k⟩]) (I := fun j M1 => Keeps M M1 ∧ M.length < M1.length ∧ PartS P e z l M.length n j M1 ∧ OwnA M.length M1)
    (S := fun j M1 M2 => ∀ id off us, A = some ⟨id, off, none⟩ → cellsAt M id (off + j * k) k = some us → ∃ vs N, Det Tryz.prog M1.length fn [Mk us] M1 (Mk vs) (M1 ++ N) ∧ vs.length = k ∧ (Mk vs).cells.toList = vs ∧ putCells M.length (M1 ++ N) M.length (j * k) vs = some M2)
    ⟨keeps_app _, by simp, ⟨[], by simp, by simp, fun i hi => by omega⟩, (OwnN.live rfl ownN_nil).a⟩ fun j M1 hj ⟨hk1, hl1, hp, hoa⟩ => by
      obtain ⟨id, off, us, eA, he, hrd, hcl⟩ := h.at_ hj
      obtain ⟨vs, N, d1, d2, d3, d4, d5⟩ := hto M1 j us hk1 hj (P.keeps hrd hk1)
      obtain ⟨M2, p1, p2, p3, p4⟩ := hp.step hj hz d2 d3 hl1
      refine ⟨M2, fun id' off' us' eA' hc' => ?_, ?_, by rw [p3, List.length_append]; omega, p2, ?_⟩
      · rw [eA] at eA'
        injection eA' with eA'
        injection eA' with e1 e2
        subst e1; subst e2
        rw [cellsAt_of hcl (P.len hrd) hk] at hc'
        injection hc' with hc'
        subst hc'
        exact ⟨vs, N, d1, P.len d2, d4, p1⟩
      · unfold Keeps
        exact fun i s hs => p4 i s (by have := (List.getElem?_eq_some_iff.1 hs).1; omega) ((hk1.app N).get hs)
      · intro i r hi hr
        by_cases hib : i = M.length
        · subst hib
          obtain ⟨cs, hr', -⟩ := p2
          rw [hr'] at hr
          injection hr with hr
          injection hr with hr
          rw [← hr]
        · have hlt := (List.getElem?_eq_some_iff.1 hr).1
          rw [p3] at hlt
          have hs := List.getElem?_eq_getElem hlt
          have h2 := p4 i _ hib hs
          rw [hr] at h2
          injection h2 with h2
          rw [← h2] at hs
          exact (hoa.app d5) i r hi hs
  obtain ⟨hkn, hln, ⟨cells, hr, hcl, hc⟩, hoa⟩ := fI n (Nat.le_refl _)
  refine ⟨f, f0, fun j hj => ?_, fS, ?_⟩
  · obtain ⟨a, b, ⟨cells, hr, -⟩, -⟩ := fI j hj
    exact ⟨a, b, by simp [rowEsz, hr]⟩
  · obtain ⟨N, hN⟩ := hkn.split
    refine ⟨N, hN, ⟨h.1, fun hn => ⟨M.length, 0, rfl, Nat.le_refl _, hln, by simp [rowEsz, hr], fun i hi => ?_⟩⟩, by rw [hN] at hoa; exact hoa.n⟩
    obtain ⟨us, h1, h2⟩ := hc i hi
    refine ⟨us, P.wide h1 (by omega) (Nat.le_refl _), fun t x hx => ?_⟩
    have := h2 t x hx
    simp only [cellAt, hr]
    rw [Nat.sub_self, Nat.zero_add]
    simpa using this
end
theorem toInt64S_w {M : Mem} {lo hi : Nat} {u : Value} {l : List Int} (h : SlV intP lo hi M u l) (hn : l.length ≤ 1048576) : ∃ v N, Det Tryz.prog M.length 44 [u] M v (M ++ N) ∧ SlV intP M.length (M ++ N).length (M ++ N) v l ∧ OwnN N := by
  obtain ⟨A, n, c, rfl, h1, h2, h3⟩ := h
  have hl := h3.1
  refine ⟨_, _, toInt64S_d h3.sl (by omega), ⟨_, n, n, rfl, h1, (fun h => by cases h), SlP.of_sl ⟨hl, fun _ => ⟨M.length, 0, rfl, by simp [rowEsz], fun j x hx => by simp [cellAt, hx]⟩⟩ fun a e _ => ?_⟩, .live rfl ownN_nil⟩
  injection e with e
  subst e
  exact ⟨Nat.le_refl _, by simp⟩
theorem toSegmentS_w {M : Mem} {lo hi : Nat} {u : Value} {l : List Segment} (h : SlV segP lo hi M u l) (hn : l.length ≤ 1048576) : ∃ v N, Det Tryz.prog M.length 89 [u] M v (M ++ N) ∧ SlV segP M.length (M ++ N).length (M ++ N) v l ∧ OwnN N := by
  obtain ⟨A, n, c, rfl, h1, h2, h3⟩ := h
  have hl := h3.1
  refine ⟨_, _, toSegmentS_d h3.sl (by omega), ⟨_, n, n, rfl, h1, (fun h => by cases h), SlP.of_sl ⟨hl, fun _ => ⟨M.length, 0, rfl, by simp [rowEsz], fun j x hx => by simp [cellAt, hx]⟩⟩ fun a e _ => ?_⟩, .live rfl ownN_nil⟩
  injection e with e
  subst e
  exact ⟨Nat.le_refl _, by simp⟩
theorem toInt64S_cw {M : Mem} {lo hi : Nat} {us : List Value} {x : List Int} (h : tabP.rd lo hi M x us) (hb : x.length ≤ 1048576) : ∃ vs N, Det Tryz.prog M.length 44 [one1 us] M (one1 vs) (M ++ N) ∧ tabP.rd M.length (M ++ N).length (M ++ N) x vs ∧ vs.all oneV = true ∧ (one1 vs).cells.toList = vs ∧ OwnN N := by
  obtain ⟨u, rfl, hu⟩ := h
  obtain ⟨v, N, h1, h2, h3⟩ := toInt64S_w hu hb
  refine ⟨[v], N, h1, ⟨v, rfl, h2⟩, by simp [h2.one], ?_, h3⟩
  obtain ⟨A, n, c, rfl, -⟩ := h2
  rfl
theorem toNode_cw {M : Mem} {lo hi : Nat} {us : List Value} {x : Node} (h : nodeP.rd lo hi M x us) (hb : x.from_.length ≤ 1048576) : ∃ vs N, Det Tryz.prog M.length 138 [.agg us.toArray] M (.agg vs.toArray) (M ++ N) ∧ nodeP.rd M.length (M ++ N).length (M ++ N) x vs ∧ vs.all oneV = true ∧ (Value.agg vs.toArray).cells.toList = vs ∧ OwnN N := by
  obtain ⟨u, rfl, hu⟩ := h
  obtain ⟨v, N, d, r, rw_⟩ := toInt64S_w (M := M ++ [.live ⟨[iv x.k, iv x.a, iv x.b, u], true, true, 193, 4⟩, .live ⟨[iv 0, iv 0, iv 0, .slice none 0 0], true, true, 198, 4⟩, .live ⟨[iv x.k, iv x.a, iv x.b, .slice none 0 0], true, true, 198, 4⟩]) (hu.app _) hb
  obtain ⟨A, n, c, rfl⟩ := r.isSl
  refine ⟨[iv x.k, iv x.a, iv x.b, .slice A n c], [.live ⟨[iv x.k, iv x.a, iv x.b, u], true, true, 193, 4⟩, .live ⟨[iv x.k, iv x.a, iv x.b, .slice A n c], true, true, 198, 4⟩, .live ⟨[iv x.k, iv x.a, iv x.b, .slice A n c], true, true, 198, 4⟩] ++ N, Ctr.det ?_, ⟨_, rfl, ?_⟩, by simp, rfl, OwnN.app (.live rfl (.live rfl (.live rfl ownN_nil))) rw_⟩
  · obtain ⟨A1, n1, c1, rfl⟩ := hu.isSl
    first | (refine ctr_fn Tryz.func138 rfl Tryz.ntmps138 Tryz.results138 rfl rfl (by simp) ?_) | (refine ctr_fnC Tryz.func138 rfl Tryz.ntmps138 Tryz.results138 rfl (by simp) ?_)
    simp
    refine awCall_det' d (by simp) ?_
    simp
  · exact r.boxes rfl
theorem toInt64SS_w {M : Mem} {lo hi : Nat} {u : Value} {l : List (List Int)} (h : SlV tabP lo hi M u l) (hn : l.length ≤ 1048576) (hb : ∀ x, x ∈ l → x.length ≤ 1048576) : ∃ v N, Det Tryz.prog M.length 87 [u] M v (M ++ N) ∧ SlV tabP M.length (M ++ N).length (M ++ N) v l ∧ OwnN N := by
  obtain ⟨A, n, c, rfl, h1, h2, h3⟩ := h
  have hl := h3.1
  obtain ⟨f, f0, fI, fS, N, fN, hS, hw_⟩ := to_chainW (P := tabP) (Mk := one1) (fn := 44) (e := 24) (z := [.slice none 0 0]) h3 rfl (by omega) (fun M1 i us hk hi hrd => toInt64S_cw hrd (hb _ (el_mem (by omega))))
  have hN := fI n (Nat.le_refl _)
  rw [fN] at hS
  refine ⟨.slice (some ⟨M.length, 0, none⟩) n n, N, Ctr.det ?_, ⟨_, n, n, rfl, h1, (fun h => by cases h), hS⟩, hw_⟩
  first | (refine ctr_fn Tryz.func87 rfl Tryz.ntmps87 Tryz.results87 rfl rfl (by simp) ?_) | (refine ctr_fnC Tryz.func87 rfl Tryz.ntmps87 Tryz.results87 rfl (by simp) ?_)
  simp
  refine ⟨by omega, ?_⟩
  refine awLoop_T (fun m T M' => ∃ k : Nat, k + m = n ∧ M' = f k ∧ look T 4 = some (iv k) ∧ look T 0 = some (.slice A n c) ∧ look T 3 = some (.slice (some ⟨M.length, 0, none⟩) n n)) n ⟨0, by omega, by rw [f0], by simp, by simp, by simp⟩ ?_
  rintro m T M' ⟨k, hm, rfl, h4, h0, h3'⟩
  by_cases hlt : k < n
  · obtain ⟨id, off, us, rfl, he, hrd, hc⟩ := h3.at_ hlt
    obtain ⟨g1, g2, g3⟩ := fI k (by omega)
    obtain ⟨vs, N', d1, d2, d2', d3⟩ := fS k hlt id off us rfl (cellsAt_of hc (tabP.len hrd) (by omega))
    obtain ⟨u, rfl, hu⟩ := hrd
    have c1 := (cl_cons.1 hc).1
    simp only [Nat.mul_one] at c1
    have c2 := cellAt_keeps g1 c1
    simp (disch := omega) [h3', h4, h0, hlt, wrap_in, c2, g3, rowEsz_keeps g1 he]
    refine awCall_det' d1 (by omega) ?_
    have g4 : rowEsz (f k ++ N') M.length = some 1 := rowEsz_keeps (keeps_app _) g3
    have hsz : (one1 vs).cells.size = 1 := by rw [← Array.length_toList, d2', d2]
    try simp (disch := omega) [h3', h4, h0, g4, wrap_in, hlt]
    refine ⟨hsz.symm, ?_⟩
    simp only [Nat.mul_one] at d3
    try rw [d2']
    rw [d3, ow_some]
    try simp (disch := omega) [h3', h4, h0, wrap_in]
    exact lpI (m - 1) (by omega) ⟨k + 1, by omega, rfl, by simp, by simp [h0], by simp [h3']⟩
  · obtain rfl : k = n := by omega
    simp [h3', h4, h0]
    exact fN
theorem toNodeS_w {M : Mem} {lo hi : Nat} {u : Value} {l : List Node} (h : SlV nodeP lo hi M u l) (hn : l.length ≤ 1048576) (hb : ∀ x, x ∈ l → x.from_.length ≤ 1048576) : ∃ v N, Det Tryz.prog M.length 88 [u] M v (M ++ N) ∧ SlV nodeP M.length (M ++ N).length (M ++ N) v l ∧ OwnN N := by
  obtain ⟨A, n, c, rfl, h1, h2, h3⟩ := h
  have hl := h3.1
  obtain ⟨f, f0, fI, fS, N, fN, hS, hw_⟩ := to_chainW (P := nodeP) (Mk := fun us => .agg us.toArray) (fn := 138) (e := 198) (z := [iv 0, iv 0, iv 0, .slice none 0 0]) h3 rfl (by omega) (fun M1 i us hk hi hrd => toNode_cw hrd (hb _ (el_mem (by omega))))
  have hN := fI n (Nat.le_refl _)
  rw [fN] at hS
  refine ⟨.slice (some ⟨M.length, 0, none⟩) n n, N, Ctr.det ?_, ⟨_, n, n, rfl, h1, (fun h => by cases h), hS⟩, hw_⟩
  first | (refine ctr_fn Tryz.func88 rfl Tryz.ntmps88 Tryz.results88 rfl rfl (by simp) ?_) | (refine ctr_fnC Tryz.func88 rfl Tryz.ntmps88 Tryz.results88 rfl (by simp) ?_)
  simp
  refine ⟨by omega, ?_⟩
  refine awLoop_T (fun m T M' => ∃ k : Nat, k + m = n ∧ M' = f k ∧ look T 4 = some (iv k) ∧ look T 0 = some (.slice A n c) ∧ look T 3 = some (.slice (some ⟨M.length, 0, none⟩) n n)) n ⟨0, by omega, by rw [f0], by simp, by simp, by simp⟩ ?_
  rintro m T M' ⟨k, hm, rfl, h4, h0, h3'⟩
  by_cases hlt : k < n
  · obtain ⟨id, off, us, rfl, he, hrd, hc⟩ := h3.at_ hlt
    obtain ⟨g1, g2, g3⟩ := fI k (by omega)
    obtain ⟨vs, N', d1, d2, d2', d3⟩ := fS k hlt id off us rfl (cellsAt_of hc (nodeP.len hrd) (by omega))
    have c1 := cellsAt_of (n := 4) hc (nodeP.len hrd) (by omega)
    have c2 := cellsAt_keeps g1 c1
    simp (disch := omega) [h3', h4, h0, hlt, wrap_in, c2, g3, rowEsz_keeps g1 he]
    refine awCall_det' d1 (by omega) ?_
    have g4 : rowEsz (f k ++ N') M.length = some 4 := rowEsz_keeps (keeps_app _) g3
    have hsz : (Value.agg vs.toArray).cells.size = 4 := by rw [← Array.length_toList, d2', d2]
    try simp (disch := omega) [h3', h4, h0, g4, wrap_in, hlt]
    refine ⟨hsz.symm, ?_⟩
    try rw [d2']
    rw [d3, ow_some]
    try simp (disch := omega) [h3', h4, h0, wrap_in]
    exact lpI (m - 1) (by omega) ⟨k + 1, by omega, rfl, by simp, by simp [h0], by simp [h3']⟩
  · obtain rfl : k = n := by omega
    simp [h3', h4, h0]
    exact fN
theorem toPatch_w {M : Mem} {lo hi : Nat} {us : List Value} {x : Patch} (h : patchP.rd lo hi M x us) (hb : SmallP x) : ∃ vs N, Det Tryz.prog M.length 42 [.agg us.toArray] M (.agg vs.toArray) (M ++ N) ∧ patchP.rd M.length (M ++ N).length (M ++ N) x vs ∧ OwnN N := by
  obtain ⟨u, v, w, rfl, hu, hv, hw⟩ := h
  obtain ⟨A1, n1, c1, rfl⟩ := hu.isSl
  obtain ⟨A2, n2, c2, rfl⟩ := hv.isSl
  obtain ⟨A3, n3, c3, rfl⟩ := hw.isSl
  obtain ⟨v1, N1, d1, r1, q1⟩ := toInt64SS_w (M := M ++ ([Slot.live ⟨[iv x.inp, .slice A1 n1 c1, .slice A2 n2 c2, .slice A3 n3 c3], true, true, 26, 4⟩, .live ⟨[iv 0, .slice none 0 0, .slice none 0 0, .slice none 0 0], true, true, 39, 4⟩, .live ⟨[iv x.inp, .slice none 0 0, .slice none 0 0, .slice none 0 0], true, true, 39, 4⟩] ++ [])) (hu.app _) hb.tabs hb.tab
  obtain ⟨B1, m1, e1, rfl⟩ := r1.isSl
  obtain ⟨v2, N2, d2, r2, q2⟩ := toNodeS_w (M := M ++ ([Slot.live ⟨[iv x.inp, .slice A1 n1 c1, .slice A2 n2 c2, .slice A3 n3 c3], true, true, 26, 4⟩, .live ⟨[iv 0, .slice none 0 0, .slice none 0 0, .slice none 0 0], true, true, 39, 4⟩, .live ⟨[iv x.inp, .slice B1 m1 e1, .slice none 0 0, .slice none 0 0], true, true, 39, 4⟩] ++ N1)) (hv.app _) hb.nodes hb.node
  obtain ⟨B2, m2, e2, rfl⟩ := r2.isSl
  obtain ⟨v3, N3, d3, r3, q3⟩ := toInt64S_w (M := M ++ ([Slot.live ⟨[iv x.inp, .slice A1 n1 c1, .slice A2 n2 c2, .slice A3 n3 c3], true, true, 26, 4⟩, .live ⟨[iv 0, .slice none 0 0, .slice none 0 0, .slice none 0 0], true, true, 39, 4⟩, .live ⟨[iv x.inp, .slice B1 m1 e1, .slice B2 m2 e2, .slice none 0 0], true, true, 39, 4⟩] ++ (N1 ++ N2))) (hw.app _) hb.outs
  obtain ⟨B3, m3, e3, rfl⟩ := r3.isSl
  refine ⟨[iv x.inp, .slice B1 m1 e1, .slice B2 m2 e2, .slice B3 m3 e3], [.live ⟨[iv x.inp, .slice A1 n1 c1, .slice A2 n2 c2, .slice A3 n3 c3], true, true, 26, 4⟩, .live ⟨[iv x.inp, .slice B1 m1 e1, .slice B2 m2 e2, .slice B3 m3 e3], true, true, 39, 4⟩, .live ⟨[iv x.inp, .slice B1 m1 e1, .slice B2 m2 e2, .slice B3 m3 e3], true, true, 39, 4⟩] ++ (N1 ++ (N2 ++ N3)), Ctr.det ?_, ⟨_, _, _, rfl, ?_, ?_, ?_⟩, OwnN.app (.live rfl (.live rfl (.live rfl ownN_nil))) (q1.app (q2.app q3))⟩
  · first | (refine ctr_fn Tryz.func42 rfl Tryz.ntmps42 Tryz.results42 rfl rfl (by simp) ?_) | (refine ctr_fnC Tryz.func42 rfl Tryz.ntmps42 Tryz.results42 rfl (by simp) ?_)
    simp
    simp at d1 d2 d3
    refine awCall_det' d1 (by simp) ?_
    simp
    refine awCall_det' d2 (by simp) ?_
    simp
    refine awCall_det' d3 (by simp) ?_
    simp
  · exact r1.boxesG rfl
  · exact r2.boxesG rfl
  · have := r3.boxesG (A := [.live ⟨[iv x.inp, .slice A1 n1 c1, .slice A2 n2 c2, .slice A3 n3 c3], true, true, 26, 4⟩, .live ⟨[iv x.inp, .slice B1 m1 e1, .slice B2 m2 e2, .slice B3 m3 e3], true, true, 39, 4⟩, .live ⟨[iv x.inp, .slice B1 m1 e1, .slice B2 m2 e2, .slice B3 m3 e3], true, true, 39, 4⟩]) (E := []) rfl
    simpa using this
theorem toEnvelope_w {M : Mem} {lo hi : Nat} {us : List Value} {x : Envl} (h : envP.rd lo hi M x us) (hb : x.segs.length ≤ 1048576) : ∃ vs N, Det Tryz.prog M.length 43 [.agg us.toArray] M (.agg vs.toArray) (M ++ N) ∧ envP.rd M.length (M ++ N).length (M ++ N) x vs ∧ OwnN N := by
  obtain ⟨u, rfl, hu⟩ := h
  obtain ⟨A1, n1, c1, rfl⟩ := hu.isSl
  obtain ⟨v1, N1, d1, r1, q1⟩ := toSegmentS_w (M := M ++ [Slot.live ⟨[iv x.st, .slice A1 n1 c1, iv x.rel], true, true, 29, 3⟩, .live ⟨[iv 0, .slice none 0 0, iv 0], true, true, 42, 3⟩, .live ⟨[iv x.st, .slice none 0 0, iv 0], true, true, 42, 3⟩]) (hu.app _) hb
  obtain ⟨B1, m1, e1, rfl⟩ := r1.isSl
  refine ⟨[iv x.st, .slice B1 m1 e1, iv x.rel], [.live ⟨[iv x.st, .slice A1 n1 c1, iv x.rel], true, true, 29, 3⟩, .live ⟨[iv x.st, .slice B1 m1 e1, iv x.rel], true, true, 42, 3⟩, .live ⟨[iv x.st, .slice B1 m1 e1, iv x.rel], true, true, 42, 3⟩] ++ N1, Ctr.det ?_, ⟨_, rfl, r1.boxes rfl⟩, OwnN.app (.live rfl (.live rfl (.live rfl ownN_nil))) q1⟩
  first | (refine ctr_fn Tryz.func43 rfl Tryz.ntmps43 Tryz.results43 rfl rfl (by simp) ?_) | (refine ctr_fnC Tryz.func43 rfl Tryz.ntmps43 Tryz.results43 rfl (by simp) ?_)
  simp
  refine awCall_det' d1 (by simp) ?_
  simp
theorem toInstrument_w {M : Mem} {lo hi : Nat} {us : List Value} {x : Inst} (h : instP.rd lo hi M x us) (hb : SmallI x) : ∃ vs N, Det Tryz.prog M.length 10 [.agg us.toArray] M (.agg vs.toArray) (M ++ N) ∧ instP.rd M.length (M ++ N).length (M ++ N) x vs ∧ OwnN N := by
  obtain ⟨ps, es, w, rfl, hp, he, hw⟩ := h
  obtain ⟨A1, n1, c1, A2, n2, c2, A3, n3, c3, rfl⟩ := patch_isV hp
  obtain ⟨A4, n4, c4, rfl⟩ := env_isV he
  obtain ⟨A5, n5, c5, rfl⟩ := hw.isSl
  obtain ⟨v1, N1, d1, r1, q1⟩ := toPatch_w (M := M ++ ([Slot.live ⟨[iv x.pat.inp, .slice A1 n1 c1, .slice A2 n2 c2, .slice A3 n3 c3, iv x.env.st, .slice A4 n4 c4, iv x.env.rel, .slice A5 n5 c5], true, true, 31, 8⟩, .live ⟨[iv 0, .slice none 0 0, .slice none 0 0, .slice none 0 0, iv 0, .slice none 0 0, iv 0, .slice none 0 0], true, true, 44, 8⟩, .live ⟨[iv 0, .slice none 0 0, .slice none 0 0, .slice none 0 0, iv 0, .slice none 0 0, iv 0, .slice none 0 0], true, true, 44, 8⟩] ++ [])) (patchP.app hp _) hb.pat
  obtain ⟨B1, m1, g1, B2, m2, g2, B3, m3, g3, rfl⟩ := patch_isV r1
  obtain ⟨v2, N2, d2, r2, q2⟩ := toEnvelope_w (M := M ++ ([Slot.live ⟨[iv x.pat.inp, .slice A1 n1 c1, .slice A2 n2 c2, .slice A3 n3 c3, iv x.env.st, .slice A4 n4 c4, iv x.env.rel, .slice A5 n5 c5], true, true, 31, 8⟩, .live ⟨[iv 0, .slice none 0 0, .slice none 0 0, .slice none 0 0, iv 0, .slice none 0 0, iv 0, .slice none 0 0], true, true, 44, 8⟩, .live ⟨[iv x.pat.inp, .slice B1 m1 g1, .slice B2 m2 g2, .slice B3 m3 g3, iv 0, .slice none 0 0, iv 0, .slice none 0 0], true, true, 44, 8⟩] ++ N1)) (envP.app he _) hb.segs
  obtain ⟨B4, m4, g4, rfl⟩ := env_isV r2
  obtain ⟨v3, N3, d3, r3, q3⟩ := toInt64S_w (M := M ++ ([Slot.live ⟨[iv x.pat.inp, .slice A1 n1 c1, .slice A2 n2 c2, .slice A3 n3 c3, iv x.env.st, .slice A4 n4 c4, iv x.env.rel, .slice A5 n5 c5], true, true, 31, 8⟩, .live ⟨[iv 0, .slice none 0 0, .slice none 0 0, .slice none 0 0, iv 0, .slice none 0 0, iv 0, .slice none 0 0], true, true, 44, 8⟩, .live ⟨[iv x.pat.inp, .slice B1 m1 g1, .slice B2 m2 g2, .slice B3 m3 g3, iv x.env.st, .slice B4 m4 g4, iv x.env.rel, .slice none 0 0], true, true, 44, 8⟩] ++ (N1 ++ N2))) (hw.app _) hb.steps
  obtain ⟨B5, m5, g5, rfl⟩ := r3.isSl
  refine ⟨[iv x.pat.inp, .slice B1 m1 g1, .slice B2 m2 g2, .slice B3 m3 g3, iv x.env.st, .slice B4 m4 g4, iv x.env.rel, .slice B5 m5 g5], [Slot.live ⟨[iv x.pat.inp, .slice A1 n1 c1, .slice A2 n2 c2, .slice A3 n3 c3, iv x.env.st, .slice A4 n4 c4, iv x.env.rel, .slice A5 n5 c5], true, true, 31, 8⟩, .live ⟨[iv x.pat.inp, .slice B1 m1 g1, .slice B2 m2 g2, .slice B3 m3 g3, iv x.env.st, .slice B4 m4 g4, iv x.env.rel, .slice B5 m5 g5], true, true, 44, 8⟩, .live ⟨[iv x.pat.inp, .slice B1 m1 g1, .slice B2 m2 g2, .slice B3 m3 g3, iv x.env.st, .slice B4 m4 g4, iv x.env.rel, .slice B5 m5 g5], true, true, 44, 8⟩] ++ (N1 ++ (N2 ++ N3)), Ctr.det ?_, ⟨[iv x.pat.inp, .slice B1 m1 g1, .slice B2 m2 g2, .slice B3 m3 g3], [iv x.env.st, .slice B4 m4 g4, iv x.env.rel], .slice B5 m5 g5, rfl, ?_, ?_, ?_⟩, OwnN.app (.live rfl (.live rfl (.live rfl ownN_nil))) (q1.app (q2.app q3))⟩
  · first | (refine ctr_fn Tryz.func10 rfl Tryz.ntmps10 Tryz.results10 rfl rfl (by simp) ?_) | (refine ctr_fnC Tryz.func10 rfl Tryz.ntmps10 Tryz.results10 rfl (by simp) ?_)
    simp
    simp at d1 d2 d3
    refine awCall_det' d1 (by simp) ?_
    simp
    refine awCall_det' d2 (by simp) ?_
    simp
    refine awCall_det' d3 (by simp) ?_
    simp
  · exact patchP.boxesG (C := []) (D := N1) (E := N2 ++ N3) r1 rfl
  · exact envP.boxesG (C := N1) (D := N2) (E := N3) r2 rfl
  · have := r3.boxesG (A := [Slot.live ⟨[iv x.pat.inp, .slice A1 n1 c1, .slice A2 n2 c2, .slice A3 n3 c3, iv x.env.st, .slice A4 n4 c4, iv x.env.rel, .slice A5 n5 c5], true, true, 31, 8⟩, .live ⟨[iv x.pat.inp, .slice B1 m1 g1, .slice B2 m2 g2, .slice B3 m3 g3, iv x.env.st, .slice B4 m4 g4, iv x.env.rel, .slice B5 m5 g5], true, true, 44, 8⟩, .live ⟨[iv x.pat.inp, .slice B1 m1 g1, .slice B2 m2 g2, .slice B3 m3 g3, iv x.env.st, .slice B4 m4 g4, iv x.env.rel, .slice B5 m5 g5], true, true, 44, 8⟩]) (E := []) rfl
    simpa using this
end Go.Proofs.YtimijeeihicohaaGreat

namespace Go.Proofs.YtimijeeihicohaaGreat
open Go.RowKit
set_option linter.unusedVariables false
set_option linter.unusedSimpArgs false
set_option maxRecDepth 100000
attribute [local simp] List.getElem?_cons_zero
attribute [local irreducible] awCond awCall awLoop awDraw ow retQ retC resQ Keeps
def markIL (z : Int) (n : Nat) : List Int := (List.range n).map fun i : Nat => z + (i : Int)
theorem markIL_succ (z : Int) (n : Nat) : markIL z (n + 1) = markIL z n ++ [z + (n : Int)] := by simp [markIL, List.range_succ]
theorem markInt64S_r {M : Mem} {b id off n c : Nat} {cs : List Value} {t : Bool} {e : TypeId} (z : Int) (hr : M[id]? = some (.live ⟨cs, true, t, e, 1⟩)) (hb : b ≤ id) (hlen : off + n ≤ cs.length) (hn : n ≤ 1099511627776) (hz0 : 0 ≤ z) (hz : z ≤ 1152921504606846976) :
    Ctr Tryz.prog b 23 [.slice (some ⟨id, off, none⟩) n c, iv z] M fun v M' => v = iv (z + n) ∧ M' = M.set id (.live ⟨cs.take off ++ cellsL intR (markIL z n) ++ cs.drop (off + n * 1), true, t, e, 1⟩) := by
  have hid := (List.getElem?_eq_some_iff.1 hr).1
  have hM : M = M.set id (.live ⟨cs.take off ++ cellsL intR (markIL z 0) ++ cs.drop (off + 0 * 1), true, t, e, 1⟩) := by
    rw [set_self]
    simp [markIL, cellsL_nil, hr]
  first | (refine ctr_fn Tryz.func23 rfl Tryz.ntmps23 Tryz.results23 rfl rfl (by simp) ?_) | (refine ctr_fnC Tryz.func23 rfl Tryz.ntmps23 Tryz.results23 rfl (by simp) ?_)
  simp
  refine awLoop_T (fun m T M' => ∃ j : Nat, j + m = n ∧ M' = M.set id (.live ⟨cs.take off ++ cellsL intR (markIL z j) ++ cs.drop (off + j * 1), true, t, e, 1⟩) ∧ look T 5 = some (iv j) ∧ look T 1 = some (iv (z + j)) ∧ look T 0 = some (.slice (some ⟨id, off, none⟩) n c)) n ⟨0, by omega, hM, by simp, by simp, by simp⟩ ?_
  rintro m T M' ⟨j, hm, rfl, h5, h1, h0⟩
  have hlm : (markIL z j).length = j := by simp [markIL]
  by_cases hlt : j < n
  · have hsp := splice_mid intR (cs := cs) (off := off) (a := z + (j : Int)) hlm (by omega)
    have hlc : (cs.take off ++ cellsL intR (markIL z j) ++ cs.drop (off + j * 1)).length = cs.length := by
      simp only [List.length_append, List.length_take, List.length_drop, cellsL_len, hlm]; omega
    generalize cs.take off ++ cellsL intR (markIL z j) ++ cs.drop (off + j * 1) = Cs at hsp hlc ⊢
    simp (disch := first | omega | (simp <;> omega)) [h5, h1, h0, hlt, wrap_in, rowEsz_set hid, put_set hid hb]

    refine lpI (m - 1) (by omega) ?_
    refine ⟨j + 1, by omega, ?_, by simp, by simp; omega, by simp [h0]⟩
    have hs1 : splice Cs (off + j * 1) (intR.row (z + (j : Int))) = Cs.set (off + j) (iv (z + (j : Int))) := by
      rw [Nat.mul_one]
      rfl
    rw [markIL_succ, ← hsp, hs1]
  · obtain rfl : j = n := by omega
    simp [h5, h1, h0]
theorem markInt64S_0 {M : Mem} {b : Nat} {A : Option Addr} {c : Nat} (z : Int) : Ctr Tryz.prog b 23 [.slice A 0 c, iv z] M fun v M' => v = iv z ∧ M' = M := by
  first | (refine ctr_fn Tryz.func23 rfl Tryz.ntmps23 Tryz.results23 rfl rfl (by simp) ?_) | (refine ctr_fnC Tryz.func23 rfl Tryz.ntmps23 Tryz.results23 rfl (by simp) ?_)
  simp
  refine awLoop_T (fun m T M' => M' = M ∧ look T 1 = some (iv z) ∧ look T 5 = some (iv 0) ∧ look T 0 = some (.slice A 0 c)) 0 ⟨rfl, by simp, by simp, by simp⟩ ?_
  rintro m T M' ⟨rfl, h1, h3, h0⟩
  simp [h1, h3, h0]
theorem heldInt64S_a {M : Mem} {A : Option Addr} {n c : Nat} (z : Int) (hx : Sl intR M A n (markIL z n)) (hn : n ≤ 1099511627776) (hz0 : 0 ≤ z) (hz : z ≤ 1152921504606846976) :
    Det Tryz.prog M.length 24 [.slice A n c, iv z] M (iv (z + n)) M := by
  first | (refine det_fn Tryz.func24 rfl Tryz.ntmps24 Tryz.results24 rfl rfl rfl (by simp) ?_) | (refine det_fnC Tryz.func24 rfl Tryz.ntmps24 Tryz.results24 rfl rfl (by simp) ?_)
  simp
  refine awLoop_T (fun m T M' => ∃ j : Nat, j + m = n ∧ M' = M ∧ look T 5 = some (iv j) ∧ look T 1 = some (iv (z + j)) ∧ look T 0 = some (.slice A n c)) n ⟨0, by omega, rfl, by simp, by simp, by simp⟩ ?_
  rintro m T M' ⟨j, hm, rfl, h5, h1, h0⟩
  by_cases hlt : j < n
  · obtain ⟨id, off, rfl, he, hc⟩ := hx.at_ hlt
    rw [show el (markIL z n) j = z + (j : Int) by simp [markIL, el, hlt]] at hc
    have c0 := int_cell hc
    simp only [Nat.mul_one] at c0
    simp (disch := omega) [h5, h1, h0, hlt, wrap_in, c0, he]
    refine lpI (m - 1) (by omega) ?_
    exact ⟨j + 1, by omega, rfl, by simp, by simp; omega, by simp [h0]⟩
  · obtain rfl : j = n := by omega
    simp [h5, h1, h0, Keeps.refl]
/-- A list of lists in rows of one's own. -/
def SSo (lo hi : Nat) (M : Mem) (u : Value) (l : List (List Int)) : Prop :=
  ∃ id n cells e, u = .slice (some ⟨id, 0, none⟩) n n ∧ l.length = n ∧ n ≤ 1048576 ∧ lo ≤ id ∧ id < hi ∧ M[id]? = some (.live ⟨cells, true, true, e, 1⟩) ∧ cells.length = n ∧
    ∀ i, i < n → ∃ jd, cells[i]? = some (.slice (some ⟨jd, 0, none⟩) (el l i).length (el l i).length) ∧ id < jd ∧ jd < hi ∧ M[jd]? = some (.live ⟨cellsL intR (el l i), true, true, 2, 1⟩)
theorem SSo.agree {lo hi : Nat} {M M' : Mem} {u : Value} {l : List (List Int)} (h : SSo lo hi M u l) (hg : Agree lo hi M M') : SSo lo hi M' u l := by
  obtain ⟨id, n, cells, e, h1, h2, h3, h4, h5, h6, h7, h8⟩ := h
  refine ⟨id, n, cells, e, h1, h2, h3, h4, h5, hg _ _ h4 h5 h6, h7, fun i hi' => ?_⟩
  obtain ⟨jd, g1, g2, g3, g4⟩ := h8 i hi'
  exact ⟨jd, g1, g2, g3, hg _ _ (by omega) g3 g4⟩
theorem SSo.keeps {lo hi : Nat} {M M' : Mem} {u : Value} {l : List (List Int)} (h : SSo lo hi M u l) (hk : Keeps M M') : SSo lo hi M' u l := h.agree hk.agree
theorem SSo.slv {lo hi : Nat} {M : Mem} {u : Value} {l : List (List Int)} (h : SSo lo hi M u l) (hb : ∀ x, x ∈ l → x.length ≤ 1048576) : SlV tabP lo hi M u l := by
  obtain ⟨id, n, cells, e, h1, h2, h3, h4, h5, h6, h7, h8⟩ := h
  refine ⟨_, n, n, h1, by omega, (fun h => by cases h), h2, fun _ => ⟨id, 0, rfl, h4, h5, by simp [rowEsz, h6], fun i hi' => ?_⟩⟩
  obtain ⟨jd, g1, g2, g3, g4⟩ := h8 i hi'
  have hxb := hb _ (el_mem (l := l) (i := i) (by omega))
  refine ⟨[.slice (some ⟨jd, 0, none⟩) (el l i).length (el l i).length], ⟨_, rfl, _, _, (el l i).length, rfl, by omega, (fun h => by cases h), SlP.of_sl ⟨rfl, fun _ => ⟨jd, 0, rfl, by simp [rowEsz, g4], fun j x hx => by simp [cellAt, g4, hx]⟩⟩ fun a e _ => ?_⟩, cl_cons.2 ⟨?_, cl_nil⟩⟩
  · injection e with e
    subst e
    exact ⟨by show lo ≤ jd; omega, g3⟩
  · simp [cellAt, h6, g1]
end Go.Proofs.YtimijeeihicohaaGreat

namespace Go.Proofs.YtimijeeihicohaaGreat
open Go.RowKit
set_option linter.unusedVariables false
set_option linter.unusedSimpArgs false
set_option maxRecDepth 100000
attribute [local simp] List.getElem?_cons_zero
attribute [local irreducible] awCond awCall awLoop awDraw ow retQ retC resQ Keeps
def Mkv (v v' : Value) : Prop := v' = v ∨ ∃ z z', v = iv z ∧ v' = iv z'
theorem Mkv.trans {a b c : Value} (h : Mkv a b) (h' : Mkv b c) : Mkv a c := by
  rcases h with rfl | ⟨z, z', rfl, rfl⟩
  · exact h'
  · rcases h' with rfl | ⟨y, y', e, rfl⟩
    · exact .inr ⟨z, z', rfl, rfl⟩
    · exact .inr ⟨z, y', rfl, rfl⟩
theorem mkv_int {z : Int} {v : Value} (h : Mkv (iv z) v) : ∃ z', v = iv z' := by
  rcases h with rfl | ⟨_, z', _, rfl⟩
  · exact ⟨z, rfl⟩
  · exact ⟨z', rfl⟩
theorem mkv_sl {A : Option Addr} {n c : Nat} {v : Value} (h : Mkv (.slice A n c) v) : v = .slice A n c := by
  rcases h with rfl | ⟨_, z', e, _⟩
  · rfl
  · cases e
def Mkl (xs ys : List Value) : Prop := xs.length = ys.length ∧ ∀ (i : Nat) x y, xs[i]? = some x → ys[i]? = some y → Mkv x y
theorem Mkl.refl (xs : List Value) : Mkl xs xs := ⟨rfl, fun i x y hx hy => .inl (by rw [hx] at hy; injection hy with hy; exact hy.symm)⟩
theorem Mkl.trans {a b c : List Value} (h : Mkl a b) (h' : Mkl b c) : Mkl a c := ⟨h.1.trans h'.1, fun i x z hx hz => by
  have hb : b[i]? = some (b[i]'(by have := (List.getElem?_eq_some_iff.1 hx).1; have := h.1; omega)) := List.getElem?_eq_getElem _
  exact (h.2 i _ _ hx hb).trans (h'.2 i _ _ hb hz)⟩
theorem mkl_nil {ys : List Value} (h : Mkl [] ys) : ys = [] := List.eq_nil_of_length_eq_zero h.1.symm
theorem mkl_cons {x : Value} {xs ys : List Value} (h : Mkl (x :: xs) ys) : ∃ y ys', ys = y :: ys' ∧ Mkv x y ∧ Mkl xs ys' := by
  match ys, h with
  | [], h => have := h.1; simp at this
  | y :: ys', h => exact ⟨y, ys', rfl, h.2 0 x y rfl rfl, by have := h.1; simpa using this, fun i a b ha hb => h.2 (i + 1) a b (by simpa using ha) (by simpa using hb)⟩
def Mks (s s' : Slot) : Prop := s' = s ∨ ∃ (r : Row) (cs : List Value), s = .live r ∧ s' = .live ⟨cs, r.own, r.tight, r.elem, r.esz⟩ ∧ Mkl r.cells cs
/-- Only numbers in rows with ids from lo up to hi may have turned, to numbers. -/
def Marked (lo hi : Nat) (M M' : Mem) : Prop := M.length ≤ M'.length ∧ ∀ (i : Nat) s, M[i]? = some s → ∃ s', M'[i]? = some s' ∧ Mks s s' ∧ ((i < lo ∨ hi ≤ i) → s' = s)
theorem Marked.refl (lo hi : Nat) (M : Mem) : Marked lo hi M M := ⟨Nat.le_refl _, fun i s hs => ⟨s, hs, .inl rfl, fun _ => rfl⟩⟩
theorem Marked.trans {lo hi : Nat} {M M1 M2 : Mem} (h : Marked lo hi M M1) (h' : Marked lo hi M1 M2) : Marked lo hi M M2 := ⟨Nat.le_trans h.1 h'.1, fun i s hs => by
  obtain ⟨s1, a1, a2, a3⟩ := h.2 i s hs
  obtain ⟨s2, b1, b2, b3⟩ := h'.2 i s1 a1
  refine ⟨s2, b1, ?_, fun hd => (b3 hd).trans (a3 hd)⟩
  rcases a2 with rfl | ⟨r, cs, rfl, rfl, hm⟩
  · exact b2
  · rcases b2 with rfl | ⟨r2, cs2, e, rfl, hm2⟩
    · exact .inr ⟨r, cs, rfl, rfl, hm⟩
    · injection e with e
      subst e
      exact .inr ⟨r, cs2, rfl, rfl, hm.trans hm2⟩⟩
theorem Marked.turn {lo hi : Nat} {M M' : Mem} (h : Marked lo hi M M') : Turn lo hi M M' := ⟨h.1, fun i s hs hd => by
  obtain ⟨s', a1, -, a3⟩ := h.2 i s hs
  rw [a3 hd] at a1
  exact a1⟩
theorem Marked.row {lo hi : Nat} {M M' : Mem} (h : Marked lo hi M M') {i : Nat} {r : Row} (hr : M[i]? = some (.live r)) : ∃ cs, M'[i]? = some (.live ⟨cs, r.own, r.tight, r.elem, r.esz⟩) ∧ Mkl r.cells cs := by
  obtain ⟨s', a1, a2, -⟩ := h.2 i _ hr
  rcases a2 with rfl | ⟨r', cs, e, rfl, hm⟩
  · exact ⟨r.cells, a1, .refl _⟩
  · injection e with e
    subst e
    exact ⟨cs, a1, hm⟩
theorem Marked.cl {lo hi : Nat} {M M' : Mem} (h : Marked lo hi M M') {id off : Nat} {us : List Value} (hc : Cl M id off us) : ∃ us', Cl M' id off us' ∧ Mkl us us' := by
  rcases us with _ | ⟨u, us⟩
  · exact ⟨[], cl_nil, .refl _⟩
  · have h0 := hc 0 u rfl
    unfold cellAt at h0
    cases hm : M[id]? with
    | none => rw [hm] at h0; cases h0
    | some s =>
      cases s with
      | dead => rw [hm] at h0; cases h0
      | hole => rw [hm] at h0; cases h0
      | live r =>
        obtain ⟨cs, a1, a2⟩ := h.row hm
        have at_ : ∀ (j : Nat) x, (u :: us)[j]? = some x → r.cells[off + j]? = some x := fun j x hx => by
          have := hc j x hx
          unfold cellAt at this
          rw [hm] at this
          exact this
        have hll : ∀ j, j < (u :: us).length → off + j < cs.length := fun j hj => by
          have := (List.getElem?_eq_some_iff.1 (at_ j _ (List.getElem?_eq_getElem hj))).1
          rw [← a2.1]; exact this
        have hlen : ((cs.drop off).take (u :: us).length).length = (u :: us).length := by
          have := hll us.length (by simp)
          rw [List.length_take, List.length_drop]
          simp
          omega
        have hg : ∀ j, j < (u :: us).length → ((cs.drop off).take (u :: us).length)[j]? = cs[off + j]? := fun j hj => by
          rw [List.getElem?_take, if_pos hj, List.getElem?_drop]
        refine ⟨(cs.drop off).take (u :: us).length, fun j x hx => ?_, hlen.symm, fun j x y hx hy => ?_⟩
        · have hj : j < (u :: us).length := by have := (List.getElem?_eq_some_iff.1 hx).1; omega
          rw [hg j hj] at hx
          simp [cellAt, a1, hx]
        · have hj := (List.getElem?_eq_some_iff.1 hx).1
          rw [hg j hj] at hy
          exact a2.2 _ _ _ (at_ j x hx) hy
theorem Marked.esz {lo hi : Nat} {M M' : Mem} (h : Marked lo hi M M') {id k : Nat} (he : rowEsz M id = some k) : rowEsz M' id = some k := by
  unfold rowEsz at he ⊢
  cases hm : M[id]? with
  | none => rw [hm] at he; cases he
  | some s =>
    cases s with
    | dead => rw [hm] at he; cases he
    | hole => rw [hm] at he; cases he
    | live r =>
      obtain ⟨cs, a1, a2⟩ := h.row hm
      rw [hm] at he
      rw [a1]
      exact he
theorem Marked.set {lo hi : Nat} {M : Mem} {id : Nat} {r : Row} {cs : List Value} (hr : M[id]? = some (.live r)) (h1 : lo ≤ id) (h2 : id < hi) (hc : Mkl r.cells cs) : Marked lo hi M (M.set id (.live ⟨cs, r.own, r.tight, r.elem, r.esz⟩)) := by
  refine ⟨by simp, fun i s hs => ?_⟩
  by_cases e : i = id
  · subst e
    rw [hr] at hs
    injection hs with hs
    subst hs
    exact ⟨_, List.getElem?_set_self (List.getElem?_eq_some_iff.1 hr).1, .inr ⟨r, cs, rfl, rfl, hc⟩, fun hd => by omega⟩
  · exact ⟨s, by rw [List.getElem?_set_ne (Ne.symm e)]; exact hs, .inl rfl, fun _ => rfl⟩
/-- The rows with ids from lo up to hi may be written. -/
def OwnR (lo hi : Nat) (M : Mem) : Prop := ∀ (i : Nat) r, lo ≤ i → i < hi → M[i]? = some (.live r) → r.own = true
theorem OwnN.r {M N : Mem} (h : OwnN N) : OwnR M.length (M ++ N).length (M ++ N) := fun i r h1 _ hr => h.a i r h1 hr
theorem OwnR.thin {lo hi lo' hi' : Nat} {M : Mem} (h : OwnR lo hi M) (h1 : lo ≤ lo') (h2 : hi' ≤ hi) : OwnR lo' hi' M := fun i r a b => h i r (by omega) (by omega)
theorem OwnR.agree {lo hi : Nat} {M M' : Mem} (h : OwnR lo hi M) (hg : Agree lo hi M M') (hl : hi ≤ M.length) : OwnR lo hi M' := fun i r a b hr => by
  have hs : M[i]? = some (M[i]'(by omega)) := List.getElem?_eq_getElem _
  have := hg i _ a b hs
  rw [hr] at this
  injection this with this
  rw [← this] at hs
  exact h i r a b hs
theorem OwnR.marked {lo hi lo' hi' : Nat} {M M' : Mem} (h : OwnR lo hi M) (hg : Marked lo' hi' M M') (hh : hi ≤ M.length) : OwnR lo hi M' := fun i r a b hr => by
  have hl : i < M.length := by omega
  have hs : M[i]? = some (M[i]'hl) := List.getElem?_eq_getElem _
  obtain ⟨s', a1, a2, -⟩ := hg.2 i _ hs
  rw [hr] at a1
  injection a1 with a1
  subst a1
  rcases a2 with e | ⟨r', cs, e, e2, -⟩
  · rw [← e] at hs; exact h i r a b hs
  · rw [e] at hs
    injection e2 with e2
    rw [e2]
    exact h i r' a b hs
theorem cell_row {M : Mem} {id off : Nat} {v : Value} (h : cellAt M id off = some v) : ∃ r, M[id]? = some (.live r) ∧ r.cells[off]? = some v := by
  unfold cellAt at h
  cases hm : M[id]? with
  | none => rw [hm] at h; cases h
  | some s =>
    cases s with
    | dead => rw [hm] at h; cases h
    | hole => rw [hm] at h; cases h
    | live r => rw [hm] at h; exact ⟨r, rfl, h⟩
theorem Marked.put {lo hi b : Nat} {M : Mem} {id off : Nat} {z0 : Int} (hc : cellAt M id off = some (iv z0)) (ho : OwnR lo hi M) (h1 : lo ≤ id) (h2 : id < hi) (hb : b ≤ lo) (z : Int) : ∃ M', putCells b M id off [iv z] = some M' ∧ Marked lo hi M M' := by
  obtain ⟨r, hr, hx⟩ := cell_row hc
  have how := ho id r h1 h2 hr
  obtain ⟨cs, o, t, e, k⟩ := r
  simp only at how
  subst how
  have hlt := (List.getElem?_eq_some_iff.1 hx).1
  refine ⟨_, put_at_row (b := b) (p := off) (vs := [iv z]) hr (by omega) (by simp at hlt ⊢; omega) rfl, Marked.set hr h1 h2 ⟨by simp [splice], fun i x y hi hy => ?_⟩⟩
  simp only [splice] at hy
  by_cases ei : i = off
  · subst ei
    simp at hi hx
    rw [hx] at hi
    injection hi with hi
    rw [List.getElem?_set_self (by simpa using hlt)] at hy
    injection hy with hy
    exact .inr ⟨z0, z, hi.symm, hy.symm⟩
  · rw [List.getElem?_set_ne (Ne.symm ei)] at hy
    simp at hi
    rw [hi] at hy
    injection hy with hy
    exact .inl hy.symm
theorem chooseN {α : Type} [Inhabited α] {p : Nat → α → Prop} {n : Nat} (h : ∀ i, i < n → ∃ x, p i x) : ∃ V : Nat → α, ∀ i, i < n → p i (V i) := by
  classical
  refine ⟨fun i => if hi : i < n then Classical.choose (h i hi) else default, fun i hi => ?_⟩
  simp only [hi, dif_pos]
  exact Classical.choose_spec (h i hi)
section
variable {α β : Type} {k : Nat}
/-- What a value of the kind has the shape of stays when it is marked. -/
def StP (P : RecP α k) (sh : α → β) : Prop := ∀ (lo hi lo' hi' : Nat) (M M' : Mem) x us us', P.rd lo hi M x us → Marked lo' hi' M M' → Mkl us us' → ∃ x', sh x' = sh x ∧ P.rd lo hi M' x' us'
theorem StP.imp {γ : Type} {P : RecP α k} {sh : α → β} {sh' : α → γ} (h : StP P sh) (hi : ∀ x y, sh x = sh y → sh' x = sh' y) : StP P sh' := fun lo hi' lo' hi2 M M' x us us' a b c => by
  obtain ⟨x', e, hx⟩ := h lo hi' lo' hi2 M M' x us us' a b c
  exact ⟨x', hi _ _ e, hx⟩
theorem SlP.marked [Inhabited α] {P : RecP α k} {sh : α → β} (hs : StP P sh) {lo hi lo' hi' : Nat} {M M' : Mem} {A : Option Addr} {n : Nat} {l : List α} (h : SlP P lo hi M A n l) (hm : Marked lo' hi' M M') : ∃ l', l'.map sh = l.map sh ∧ SlP P lo hi M' A n l' := by
  by_cases hn : 0 < n
  · obtain ⟨id, off, e, h1, h2, h3, h4⟩ := h.2 hn
    have each : ∀ i, i < n → ∃ x', sh x' = sh (el l i) ∧ ∃ us, P.rd lo hi M' x' us ∧ Cl M' id (off + i * k) us := fun i hi => by
      obtain ⟨us, a, b⟩ := h4 i hi
      obtain ⟨us', c, d⟩ := hm.cl b
      obtain ⟨x', f, g⟩ := hs _ _ _ _ _ _ _ _ _ a hm d
      exact ⟨x', f, us', g, c⟩
    obtain ⟨V, hV⟩ := chooseN (α := α) (p := fun i x' => sh x' = sh (el l i) ∧ ∃ us, P.rd lo hi M' x' us ∧ Cl M' id (off + i * k) us) each
    have hel : ∀ i, i < n → el ((List.range n).map V) i = V i := fun i hi => by simp [el, hi]
    refine ⟨(List.range n).map V, ?_, by simp, fun _ => ⟨id, off, e, h1, h2, hm.esz h3, fun i hi => ?_⟩⟩
    · apply List.ext_getElem
      · simp [h.1]
      · intro i a b
        simp at a b
        simp [(hV i a).1, el_eq b]
    · rw [hel i hi]
      exact (hV i hi).2
  · have hn0 : n = 0 := by omega
    subst hn0
    exact ⟨l, rfl, h.1, fun h => by omega⟩
theorem SlV.marked [Inhabited α] {P : RecP α k} {sh : α → β} (hs : StP P sh) {lo hi lo' hi' : Nat} {M M' : Mem} {u : Value} {l : List α} (h : SlV P lo hi M u l) (hm : Marked lo' hi' M M') : ∃ l', l'.map sh = l.map sh ∧ SlV P lo hi M' u l' := by
  obtain ⟨A, n, c, e, h1, h2, h3⟩ := h
  obtain ⟨l', a, b⟩ := h3.marked hs hm
  exact ⟨l', a, A, n, c, e, h1, h2, b⟩
theorem st_sl [Inhabited α] {P : RecP α k} {sh : α → β} (hs : StP P sh) : StP (RecP.sl P) (List.map sh) := fun lo hi lo' hi' M M' x us us' ⟨u, e, h⟩ hm hu => by
  subst e
  obtain ⟨y, ys, rfl, hy, hr⟩ := mkl_cons hu
  obtain rfl := mkl_nil hr
  obtain ⟨l', a, b⟩ := h.marked hs hm
  refine ⟨l', a, _, rfl, ?_⟩
  obtain ⟨A, n, c, rfl, _⟩ := h
  rw [mkv_sl hy]
  exact b
end
theorem st_int : StP intP (fun _ => ()) := fun lo hi lo' hi' M M' x us us' h hm hu => by
  have h' : us = [iv x] := h
  subst h'
  obtain ⟨y, ys, rfl, hy, hr⟩ := mkl_cons hu
  obtain rfl := mkl_nil hr
  obtain ⟨z', rfl⟩ := mkv_int hy
  exact ⟨z', rfl, rfl⟩
theorem st_ints : StP tabP List.length := (st_sl st_int).imp fun x y h => by simpa using congrArg List.length h
theorem st_node : StP nodeP (fun x => x.from_.length) := fun lo hi lo' hi' M M' x us us' h hm hu => by
  obtain ⟨u, rfl, h⟩ := h
  obtain ⟨a, ys, rfl, ha, hu⟩ := mkl_cons hu
  obtain ⟨b, ys, rfl, hb, hu⟩ := mkl_cons hu
  obtain ⟨c, ys, rfl, hc, hu⟩ := mkl_cons hu
  obtain ⟨d, ys, rfl, hd, hu⟩ := mkl_cons hu
  obtain rfl := mkl_nil hu
  obtain ⟨a, rfl⟩ := mkv_int ha
  obtain ⟨b, rfl⟩ := mkv_int hb
  obtain ⟨c, rfl⟩ := mkv_int hc
  obtain ⟨l', e1, e2⟩ := h.marked st_int hm
  refine ⟨⟨a, b, c, l'⟩, by simpa using congrArg List.length e1, d, rfl, ?_⟩
  obtain ⟨A, n, c, rfl, _⟩ := h
  rw [mkv_sl hd]
  exact e2
theorem st_seg : StP segP (fun _ => ()) := fun lo hi lo' hi' M M' x us us' h hm hu => by
  have h' : us = [iv x.ln, iv x.tg] := h
  subst h'
  obtain ⟨a, ys, rfl, ha, hu⟩ := mkl_cons hu
  obtain ⟨b, ys, rfl, hb, hu⟩ := mkl_cons hu
  obtain rfl := mkl_nil hu
  obtain ⟨a, rfl⟩ := mkv_int ha
  obtain ⟨b, rfl⟩ := mkv_int hb
  exact ⟨⟨a, b⟩, rfl, rfl⟩
theorem sumW_map {α : Type} {f : α → Nat} {l l' : List α} (h : l'.map f = l.map f) (k : Nat) : sumW f l' k = sumW f l k := by
  unfold sumW
  rw [List.map_take, List.map_take, h]
theorem len_map {α β : Type} {f : α → β} {l l' : List α} (h : l'.map f = l.map f) : l'.length = l.length := by simpa using congrArg List.length h
theorem markInt64S_k {M : Mem} {b lo hi : Nat} {u : Value} {l : List Int} (z : Int) (h : SlV intP lo hi M u l) (ho : OwnR lo hi M) (hb : b ≤ lo) (hn : l.length ≤ 1099511627776) (hz0 : 0 ≤ z) (hz : z ≤ 1152921504606846976) :
    Ctr Tryz.prog b 23 [u, iv z] M fun v M' => v = iv (z + l.length) ∧ Marked lo hi M M' := by
  obtain ⟨A, n, c, rfl, h1, h2, h3⟩ := h
  have hl := h3.1
  by_cases h0 : n = 0
  · subst h0
    refine (markInt64S_0 z).mono ?_
    rintro v M' ⟨rfl, rfl⟩
    exact ⟨by rw [hl]; simp, .refl _ _ _⟩
  · obtain ⟨id, off, rfl, g1, g2, g3, g4⟩ := h3.2 (by omega)
    obtain ⟨us, e0, hc0⟩ := g4 0 (by omega)
    have e0 : us = [iv (el l 0)] := e0
    subst e0
    obtain ⟨r, hr, -⟩ := cell_row (int_cell hc0)
    have how := ho id r g1 g2 hr
    have hcl := h3.sl.cells hr (by omega) (by omega)
    obtain ⟨cs, o, t, e, k⟩ := r
    obtain ⟨hk, hcl⟩ := hcl
    simp only at how hk hcl
    subst how
    subst hk
    refine (markInt64S_r (off := off) z hr (by omega) (by omega) (by omega) hz0 hz).mono ?_
    rintro v M' ⟨rfl, rfl⟩
    have hlm : (cellsL intR (markIL z n)).length = n := by rw [cellsL_len]; simp [markIL]
    refine ⟨by rw [hl], Marked.set hr g1 g2 ⟨by simp only [List.length_append, List.length_take, List.length_drop, hlm]; omega, fun i x y hi hy => ?_⟩⟩
    simp only at hi
    have hil := (List.getElem?_eq_some_iff.1 hi).1
    by_cases c1 : i < off
    · rw [List.append_assoc, List.getElem?_append_left (by rw [List.length_take]; omega), List.getElem?_take, if_pos c1, hi] at hy
      injection hy with hy
      exact .inl hy.symm
    · by_cases c2 : i < off + n
      · obtain ⟨us, e1, hc1⟩ := g4 (i - off) (by omega)
        have e1 : us = [iv (el l (i - off))] := e1
        subst e1
        have := int_cell hc1
        rw [show off + (i - off) * 1 = i by omega] at this
        simp only [cellAt, hr] at this
        rw [hi] at this
        injection this with this
        subst this
        rw [List.append_assoc, List.getElem?_append_right (by rw [List.length_take]; omega), List.length_take, Nat.min_eq_left (by omega), List.getElem?_append_left (by omega)] at hy
        have hy2 : (cellsL intR (markIL z n))[(i - off) * 1 + 0]? = some y := by simpa using hy
        rw [cellsL_get intR (by simp [markIL]; omega) (by omega)] at hy2
        have hy3 : y = iv (el (markIL z n) (i - off)) := by
          have : ([iv (el (markIL z n) (i - off))] : List Value)[0]? = some y := hy2
          simpa using this.symm
        exact .inr ⟨_, _, rfl, hy3⟩
      · rw [List.getElem?_append_right (by rw [List.length_append, List.length_take, hlm]; omega), List.length_append, List.length_take, hlm, Nat.min_eq_left (by omega), List.getElem?_drop, show off + n * 1 + (i - (off + n)) = i by omega, hi] at hy
        injection hy with hy
        exact .inl hy.symm
theorem markInt64SS_k {M : Mem} {b lo hi : Nat} {u : Value} {l : List (List Int)} (z : Int) (h : SlV tabP lo hi M u l) (ho : OwnR lo hi M) (hb : b ≤ lo) (hh : hi ≤ M.length) (hn : sumW wtInt64S l l.length ≤ 1048577) (hz0 : 0 ≤ z) (hz : z ≤ 1099511627776) :
    Ctr Tryz.prog b 18 [u, iv z] M fun v M' => v = iv (z + sumW wtInt64S l l.length) ∧ Marked lo hi M M' := by
  obtain ⟨A, n, c, rfl, h1, h2, h3⟩ := h
  have hl := h3.1
  first | (refine ctr_fn Tryz.func18 rfl Tryz.ntmps18 Tryz.results18 rfl rfl (by simp) ?_) | (refine ctr_fnC Tryz.func18 rfl Tryz.ntmps18 Tryz.results18 rfl (by simp) ?_)
  simp
  refine awLoop_T (fun m T M' => ∃ (j : Nat) (l' : List (List Int)), j + m = n ∧ l'.map List.length = l.map List.length ∧ SlP tabP lo hi M' A n l' ∧ Marked lo hi M M' ∧ look T 5 = some (iv j) ∧ look T 1 = some (iv (z + sumW wtInt64S l j)) ∧ look T 0 = some (.slice A n c)) n ⟨0, l, by omega, rfl, h3, .refl _ _ _, by simp, by simp [sumW_zero], by simp⟩ ?_
  rintro m T M1 ⟨j, l', hm, e1, hS, hM, t5, t1, t0⟩
  have hle := sumW_le wtInt64S l j
  by_cases hlt : j < n
  · obtain ⟨id, off, us, rfl, he, ⟨u, rfl, hu⟩, hc⟩ := hS.at_ hlt
    have c1 := (cl_cons.1 hc).1
    simp only [Nat.mul_one] at c1
    have hss := sumW_succ wtInt64S (l := l) (k := j) (by omega)
    have hle2 := sumW_le wtInt64S l (j + 1)
    have hel : (el l' j).length = (el l j).length := by
      have := congrArg (fun q => q[j]?) e1
      simp only [List.getElem?_map] at this
      rw [el_some (by have := hS.1; omega), el_some (by omega)] at this
      simpa using this
    have hw : wtInt64S (el l j) = (el l j).length := rfl
    simp (disch := omega) [t5, t1, t0, hlt, c1, he, wrap_in]
    refine awCall_ctr (markInt64S_k _ hu (ho.marked hM hh) hb (by omega) (by omega) (by omega)) ?_
    rintro _ M2 ⟨rfl, hM2⟩
    obtain ⟨l2, g1, g2⟩ := hS.marked st_ints hM2
    simp (disch := omega) [t5, wrap_in]
    refine lpI (m - 1) (by omega) ⟨j + 1, l2, by omega, by rw [g1, e1], g2, hM.trans hM2, by simp, by rw [hss, hw, hel]; simp; omega, by simp [t0]⟩
  · obtain rfl : j = n := by omega
    simp [t5, t1, t0]
    rw [hl]
    exact ⟨rfl, hM⟩
theorem Marked.app {lo hi : Nat} {M M' L : Mem} (h : Marked lo hi (M ++ L) M') : Marked lo hi M M' := ⟨Nat.le_trans (by simp) h.1, fun i s hs => h.2 i s (by rw [List.getElem?_append_left (List.getElem?_eq_some_iff.1 hs).1]; exact hs)⟩
theorem OwnR.app {lo hi : Nat} {M : Mem} (h : OwnR lo hi M) (hh : hi ≤ M.length) (L : Mem) : OwnR lo hi (M ++ L) := h.agree (Agree.app L) hh
theorem markSegmentS_k {M : Mem} {b lo hi : Nat} {u : Value} {l : List Segment} (z : Int) (h : SlV segP lo hi M u l) (ho : OwnR lo hi M) (hb : b ≤ lo) (hh : hi ≤ M.length) (hn : l.length ≤ 1048577) (hz0 : 0 ≤ z) (hz : z ≤ 1099511627776) :
    Ctr Tryz.prog b 98 [u, iv z] M fun v M' => v = iv (z + l.length * 2) ∧ Marked lo hi M M' := by
  obtain ⟨A, n, c, rfl, h1, h2, h3⟩ := h
  have hl := h3.1
  first | (refine ctr_fn Tryz.func98 rfl Tryz.ntmps98 Tryz.results98 rfl rfl (by simp) ?_) | (refine ctr_fnC Tryz.func98 rfl Tryz.ntmps98 Tryz.results98 rfl (by simp) ?_)
  simp
  refine awLoop_T (fun m T M' => ∃ (j : Nat) (l' : List Segment), j + m = n ∧ SlP segP lo hi M' A n l' ∧ Marked lo hi M M' ∧ look T 5 = some (iv j) ∧ look T 1 = some (iv (z + j * 2)) ∧ look T 0 = some (.slice A n c)) n ⟨0, l, by omega, h3, .refl _ _ _, by simp, by simp, by simp⟩ ?_
  rintro m T M1 ⟨j, l', hm, hS, hM, t5, t1, t0⟩
  by_cases hlt : j < n
  · obtain ⟨id, off, rfl, g1, g2, he, hce⟩ := hS.2 (by omega)
    obtain ⟨us, e, hc⟩ := hce j hlt
    have e : us = [iv (el l' j).ln, iv (el l' j).tg] := e
    subst e
    have c0 := (cl_cons.1 hc).1
    have c1 := (cl_cons.1 (cl_cons.1 hc).2).1
    have hl1 := hM.1
    have how := ho.marked hM hh
    obtain ⟨M2, p2, m2⟩ := Marked.put c0 how g1 g2 hb (z + j * 2)
    have he2 := m2.esz he
    obtain ⟨us2, hc2, hk2⟩ := m2.cl hc
    obtain ⟨y0, ys, rfl, -, hk2⟩ := mkl_cons hk2
    obtain ⟨y1, ys, rfl, hy1, hk2⟩ := mkl_cons hk2
    obtain ⟨z1, rfl⟩ := mkv_int hy1
    have c12 := (cl_cons.1 (cl_cons.1 hc2).2).1
    obtain ⟨M3, p3, m3⟩ := Marked.put c12 (how.marked m2 (by omega)) g1 g2 hb (z + j * 2 + 1)
    have hM3 := (hM.trans m2).trans m3
    obtain ⟨l2, -, q2⟩ := hS.marked st_seg (m2.trans m3)
    simp (disch := omega) [t5, t1, t0, hlt, he, he2, wrap_in, p2, p3]
    refine lpI (m - 1) (by omega) ⟨j + 1, l2, by omega, q2, hM3, by simp, by simp; omega, by simp [t0]⟩
  · obtain rfl : j = n := by omega
    simp [t5, t1, t0]
    rw [hl]
    exact ⟨rfl, hM⟩
theorem markNodeS_k {M : Mem} {b lo hi : Nat} {u : Value} {l : List Node} (z : Int) (h : SlV nodeP lo hi M u l) (ho : OwnR lo hi M) (hb : b ≤ lo) (hh : hi ≤ M.length) (hn : l.length + sumW wtNode l l.length ≤ 1048577) (hz0 : 0 ≤ z) (hz : z ≤ 1099511627776) :
    Ctr Tryz.prog b 97 [u, iv z] M fun v M' => v = iv (z + (l.length * 3 + sumW wtNode l l.length : Nat)) ∧ Marked lo hi M M' := by
  obtain ⟨A, n, c, rfl, h1, h2, h3⟩ := h
  have hl := h3.1
  first | (refine ctr_fn Tryz.func97 rfl Tryz.ntmps97 Tryz.results97 rfl rfl (by simp) ?_) | (refine ctr_fnC Tryz.func97 rfl Tryz.ntmps97 Tryz.results97 rfl (by simp) ?_)
  simp
  refine awLoop_T (fun m T M' => ∃ (j : Nat) (l' : List Node), j + m = n ∧ l'.map (fun x => x.from_.length) = l.map (fun x => x.from_.length) ∧ SlP nodeP lo hi M' A n l' ∧ Marked lo hi M M' ∧ look T 5 = some (iv j) ∧ look T 1 = some (iv (z + (j * 3 + sumW wtNode l j : Nat))) ∧ look T 0 = some (.slice A n c)) n ⟨0, l, by omega, rfl, h3, .refl _ _ _, by simp, by simp [sumW_zero], by simp⟩ ?_
  rintro m T M1 ⟨j, l', hm, e1, hS, hM, t5, t1, t0⟩
  have hle := sumW_le wtNode l j
  by_cases hlt : j < n
  · obtain ⟨id, off, rfl, g1, g2, he, hce⟩ := hS.2 (by omega)
    obtain ⟨us, ⟨u, rfl, hu⟩, hc⟩ := hce j hlt
    obtain ⟨A4, n4, c4, rfl⟩ := hu.isSl
    have hss := sumW_succ wtNode (l := l) (k := j) (by omega)
    have hle2 := sumW_le wtNode l (j + 1)
    have hel : (el l' j).from_.length = (el l j).from_.length := by
      have := congrArg (fun q => q[j]?) e1
      simp only [List.getElem?_map] at this
      rw [el_some (by have := hS.1; omega), el_some (by omega)] at this
      simpa using this
    have hw : wtNode (el l j) = (el l j).from_.length := rfl
    generalize hs : sumW wtNode l j = s at *
    have c0 := (cl_cons.1 hc).1
    have hl1 := hM.1
    have how := ho.marked hM hh
    obtain ⟨q, hq⟩ : ∃ q : Int, q = z + (j * 3 + s : Nat) := ⟨_, rfl⟩
    rw [← hq] at t1
    obtain ⟨M2, p2, m2⟩ := Marked.put c0 how g1 g2 hb q
    have he2 := m2.esz he
    obtain ⟨us2, hc2, hk2⟩ := m2.cl hc
    obtain ⟨y0, ys, rfl, hy0, hk2⟩ := mkl_cons hk2
    obtain ⟨y1, ys, rfl, hy1, hk2⟩ := mkl_cons hk2
    obtain ⟨z0, rfl⟩ := mkv_int hy0
    obtain ⟨z1, rfl⟩ := mkv_int hy1
    have c12 := (cl_cons.1 (cl_cons.1 hc2).2).1
    obtain ⟨M3, p3, m3⟩ := Marked.put c12 (how.marked m2 (by omega)) g1 g2 hb (q + 1)
    have he3 := m3.esz he2
    have m13 := m2.trans m3
    obtain ⟨us3, hc3, hk3⟩ := m13.cl hc
    obtain ⟨x0, ys, rfl, -, hk3⟩ := mkl_cons hk3
    obtain ⟨x1, ys, rfl, -, hk3⟩ := mkl_cons hk3
    obtain ⟨x2, ys, rfl, hx2, hk3⟩ := mkl_cons hk3
    obtain ⟨z2, rfl⟩ := mkv_int hx2
    have c23 : cellAt M3 id (off + j * 4 + 2) = some (iv z2) := (cl_cons.1 (cl_cons.1 (cl_cons.1 hc3).2).2).1
    obtain ⟨M4, p4, m4⟩ := Marked.put c23 (how.marked m13 (by omega)) g1 g2 hb (q + 1 + 1)
    have he4 := m4.esz he3
    have m14 := m13.trans m4
    obtain ⟨us4, hc4, hk4⟩ := m14.cl hc
    obtain ⟨w0, ys, rfl, -, hk4⟩ := mkl_cons hk4
    obtain ⟨w1, ys, rfl, -, hk4⟩ := mkl_cons hk4
    obtain ⟨w2, ys, rfl, -, hk4⟩ := mkl_cons hk4
    obtain ⟨w3, ys, rfl, hw3, hk4⟩ := mkl_cons hk4
    rw [mkv_sl hw3] at hc4
    have c34 : cellAt M4 id (off + j * 4 + 3) = some (.slice A4 n4 c4) := (cl_cons.1 (cl_cons.1 (cl_cons.1 (cl_cons.1 hc4).2).2).2).1
    obtain ⟨lf, ef, hu4⟩ := hu.marked st_int m14
    have hlf : lf.length = (el l j).from_.length := by rw [← hel]; exact len_map ef
    have hl4 := m14.1
    simp (disch := omega) [t5, t1, t0, hlt, he, he2, he3, he4, wrap_in, p2, p3, p4, c34]
    refine awCall_ctr (markInt64S_k _ hu4 (how.marked m14 (by omega)) hb (by omega) (by omega) (by omega)) ?_
    rintro _ M5 ⟨rfl, m5⟩
    have m15 := m14.trans m5
    obtain ⟨l2, f1, f2⟩ := hS.marked st_node m15
    try simp (disch := omega) [t5, wrap_in]
    refine lpI (m - 1) (by omega) ⟨j + 1, l2, by omega, by rw [f1, e1], f2, hM.trans m15, by simp, by rw [hss, hw, hlf, hq]; simp; omega, by simp [t0]⟩
  · obtain rfl : j = n := by omega
    simp [t5, t1, t0]
    rw [hl]
    exact ⟨by simp, hM⟩
def mkPatch (p : Patch) : Nat := sumW wtInt64S p.tabs p.tabs.length + (p.nodes.length * 3 + sumW wtNode p.nodes p.nodes.length) + p.outs.length
theorem markPatch_k {M : Mem} {b lo hi : Nat} {us : List Value} {x : Patch} (z : Int) (h : patchP.rd lo hi M x us) (ho : OwnR lo hi M) (hb : b ≤ lo) (hbM : b ≤ M.length) (hh : hi ≤ M.length) (hn : wtPatch x ≤ 1048577) (hz0 : 0 ≤ z) (hz : z ≤ 1048577) :
    Ctr Tryz.prog b 51 [.agg us.toArray, iv z] M fun v M' => v = iv (z + mkPatch x) ∧ Marked lo hi M M' := by
  obtain ⟨u, v, w, rfl, hu, hv, hw⟩ := h
  obtain ⟨A1, n1, c1, rfl⟩ := hu.isSl
  obtain ⟨A2, n2, c2, rfl⟩ := hv.isSl
  obtain ⟨A3, n3, c3, rfl⟩ := hw.isSl
  have hwt : wtPatch x = x.tabs.length + sumW wtInt64S x.tabs x.tabs.length + (x.nodes.length + sumW wtNode x.nodes x.nodes.length) + x.outs.length := rfl
  first | (refine ctr_fn Tryz.func51 rfl Tryz.ntmps51 Tryz.results51 rfl rfl (by simp) ?_) | (refine ctr_fnC Tryz.func51 rfl Tryz.ntmps51 Tryz.results51 rfl (by simp) ?_)
  simp
  obtain ⟨M0, hM0⟩ : ∃ M0 : Mem, M0 = M ++ [Slot.live ⟨[iv x.inp, .slice A1 n1 c1, .slice A2 n2 c2, .slice A3 n3 c3], true, true, 39, 4⟩] := ⟨_, rfl⟩
  have r0 : M0[M.length]? = some (.live ⟨[iv x.inp, .slice A1 n1 c1, .slice A2 n2 c2, .slice A3 n3 c3], true, true, 39, 4⟩) := by rw [hM0]; simp
  have l0 : M0.length = M.length + 1 := by rw [hM0]; simp
  have k0 : Keeps M M0 := by rw [hM0]; exact keeps_app _
  have ho0 : OwnR lo hi M0 := by rw [hM0]; exact ho.app hh _
  have fin : ∀ M', Marked lo hi M0 M' → Marked lo hi M M' := fun M' hm => by rw [hM0] at hm; exact hm.app
  replace hu := hu.keeps k0
  replace hv := hv.keeps k0
  replace hw := hw.keeps k0
  rw [← hM0]
  clear hM0
  refine awCall_ctr (markInt64SS_k z hu ho0 hb (by omega) (by omega) hz0 (by omega)) ?_
  rintro _ M1 ⟨rfl, m1⟩
  have r1 := m1.turn.2 _ _ r0 (.inr hh)
  have l1 := m1.1
  have d1 : cellAt M1 M.length 2 = some (.slice A2 n2 c2) := by simp [cellAt, r1]
  obtain ⟨ln, en, hv1⟩ := hv.marked st_node m1
  have en1 := len_map en
  have en2 : sumW wtNode ln ln.length = sumW wtNode x.nodes x.nodes.length := by rw [en1]; exact sumW_map en _
  obtain ⟨lw, ew, hw1⟩ := hw.marked st_int m1
  have ew1 := len_map ew
  simp [d1]
  refine awCall_ctr (markNodeS_k _ hv1 (ho0.marked m1 (by omega)) hb (by omega) (by omega) (by omega) (by omega)) ?_
  rintro _ M2 ⟨rfl, m2⟩
  have r2 := m2.turn.2 _ _ r1 (.inr hh)
  have l2 := m2.1
  have d2 : cellAt M2 M.length 3 = some (.slice A3 n3 c3) := by simp [cellAt, r2]
  obtain ⟨lw2, ew2, hw2⟩ := hw1.marked st_int m2
  have ew3 := len_map ew2
  simp [d2]
  refine awCall_ctr (markInt64S_k _ hw2 (ho0.marked (m1.trans m2) (by omega)) hb (by omega) (by omega) (by omega)) ?_
  rintro _ M3 ⟨rfl, m3⟩
  simp
  refine ⟨?_, fin _ ((m1.trans m2).trans m3)⟩
  unfold mkPatch
  omega
theorem markEnvelope_k {M : Mem} {b lo hi : Nat} {us : List Value} {x : Envl} (z : Int) (h : envP.rd lo hi M x us) (ho : OwnR lo hi M) (hb : b ≤ lo) (hbM : b ≤ M.length) (hh : hi ≤ M.length) (hn : x.segs.length ≤ 1048577) (hz0 : 0 ≤ z) (hz : z ≤ 1099511627776) :
    Ctr Tryz.prog b 52 [.agg us.toArray, iv z] M fun v M' => v = iv (z + x.segs.length * 2) ∧ Marked lo hi M M' := by
  obtain ⟨u, rfl, hu⟩ := h
  obtain ⟨A1, n1, c1, rfl⟩ := hu.isSl
  first | (refine ctr_fn Tryz.func52 rfl Tryz.ntmps52 Tryz.results52 rfl rfl (by simp) ?_) | (refine ctr_fnC Tryz.func52 rfl Tryz.ntmps52 Tryz.results52 rfl (by simp) ?_)
  simp
  refine awCall_ctr (markSegmentS_k z (hu.app _) (ho.app hh _) hb (by simp; omega) hn hz0 hz) ?_
  rintro _ M1 ⟨rfl, m1⟩
  simp
  exact m1.app
def mkInst (i : Inst) : Nat := mkPatch i.pat + i.env.segs.length * 2 + i.steps.length
theorem markInstrument_k {M : Mem} {b lo hi : Nat} {us : List Value} {x : Inst} (z : Int) (h : instP.rd lo hi M x us) (ho : OwnR lo hi M) (hb : b ≤ lo) (hbM : b ≤ M.length) (hh : hi ≤ M.length) (hn : wtInst x ≤ 1048577) (hz0 : 0 ≤ z) (hz : z ≤ 1048577) :
    Ctr Tryz.prog b 16 [.agg us.toArray, iv z] M fun v M' => v = iv (z + mkInst x) ∧ Marked lo hi M M' := by
  obtain ⟨ps, es, w, rfl, hp, he, hw⟩ := h
  obtain ⟨A1, n1, c1, A2, n2, c2, A3, n3, c3, rfl⟩ := patch_isV hp
  obtain ⟨A4, n4, c4, rfl⟩ := env_isV he
  obtain ⟨A5, n5, c5, rfl⟩ := hw.isSl
  have hwt : wtInst x = wtPatch x.pat + x.env.segs.length + x.steps.length := rfl
  have hwp : wtPatch x.pat = x.pat.tabs.length + sumW wtInt64S x.pat.tabs x.pat.tabs.length + (x.pat.nodes.length + sumW wtNode x.pat.nodes x.pat.nodes.length) + x.pat.outs.length := rfl
  have hmk : mkPatch x.pat ≤ 3 * wtPatch x.pat := by unfold mkPatch; omega
  first | (refine ctr_fn Tryz.func16 rfl Tryz.ntmps16 Tryz.results16 rfl rfl (by simp) ?_) | (refine ctr_fnC Tryz.func16 rfl Tryz.ntmps16 Tryz.results16 rfl (by simp) ?_)
  simp
  obtain ⟨M0, hM0⟩ : ∃ M0 : Mem, M0 = M ++ [Slot.live ⟨[iv x.pat.inp, .slice A1 n1 c1, .slice A2 n2 c2, .slice A3 n3 c3, iv x.env.st, .slice A4 n4 c4, iv x.env.rel, .slice A5 n5 c5], true, true, 44, 8⟩] := ⟨_, rfl⟩
  have r0 : M0[M.length]? = some (.live ⟨[iv x.pat.inp, .slice A1 n1 c1, .slice A2 n2 c2, .slice A3 n3 c3, iv x.env.st, .slice A4 n4 c4, iv x.env.rel, .slice A5 n5 c5], true, true, 44, 8⟩) := by rw [hM0]; simp
  have l0 : M0.length = M.length + 1 := by rw [hM0]; simp
  have k0 : Keeps M M0 := by rw [hM0]; exact keeps_app _
  have ho0 : OwnR lo hi M0 := by rw [hM0]; exact ho.app hh _
  have fin : ∀ M', Marked lo hi M0 M' → Marked lo hi M M' := fun M' hm => by rw [hM0] at hm; exact hm.app
  replace hp := patchP.keeps hp k0
  replace he := envP.keeps he k0
  replace hw := hw.keeps k0
  rw [← hM0]
  clear hM0
  refine awCall_ctr (markPatch_k z hp ho0 hb (by omega) (by omega) (by omega) hz0 hz) ?_
  rintro _ M1 ⟨rfl, m1⟩
  have r1 := m1.turn.2 _ _ r0 (.inr hh)
  have l1 := m1.1
  have d1 : cellsAt M1 M.length 4 3 = some [iv x.env.st, .slice A4 n4 c4, iv x.env.rel] := by simp [cellsAt, r1]
  obtain ⟨u4, e4, hu4⟩ := he
  obtain ⟨ls, es, hu41⟩ := hu4.marked st_seg m1
  have es1 := len_map es
  obtain ⟨lw, ew, hw1⟩ := hw.marked st_int m1
  have ew1 := len_map ew
  simp [d1]
  have e4' : u4 = .slice A4 n4 c4 := by injection e4 with _ e4; injection e4 with e4 _; exact e4.symm
  subst e4'
  refine awCall_ctr (markEnvelope_k (x := ⟨x.env.st, ls, x.env.rel⟩) _ ⟨_, rfl, hu41⟩ (ho0.marked m1 (by omega)) hb (by omega) (by omega) (by simp; omega) (by omega) (by omega)) ?_
  rintro _ M2 ⟨rfl, m2⟩
  have r2 := m2.turn.2 _ _ r1 (.inr hh)
  have l2 := m2.1
  have d2 : cellAt M2 M.length 7 = some (.slice A5 n5 c5) := by simp [cellAt, r2]
  obtain ⟨lw2, ew2, hw2⟩ := hw1.marked st_int m2
  have ew3 := len_map ew2
  simp [d2]
  refine awCall_ctr (markInt64S_k _ hw2 (ho0.marked (m1.trans m2) (by omega)) hb (by omega) (by omega) (by omega)) ?_
  rintro _ M3 ⟨rfl, m3⟩
  simp
  refine ⟨?_, fin _ ((m1.trans m2).trans m3)⟩
  unfold mkInst
  omega
end Go.Proofs.YtimijeeihicohaaGreat

namespace Go.Proofs.YtimijeeihicohaaGreat
open Go.RowKit
set_option linter.unusedVariables false
set_option linter.unusedSimpArgs false
set_option maxRecDepth 100000
attribute [local simp] List.getElem?_cons_zero
attribute [local irreducible] awCond awCall awLoop awDraw ow retQ retC resQ Keeps
section
variable {α : Type} {k : Nat} [Inhabited α]
end
theorem mark_IntA {M : Mem} {b B : Nat} {e : TypeId} {v : Value} {l : List Int} {z : Int} (h : Acc intR e B M v l) (hb : b ≤ B) (hn : l.length ≤ 1048576) (hz : 0 ≤ z) (hz1 : z ≤ 1152921504606846976) :
    Ctr Tryz.prog b 23 [v, iv z] M fun r M' => r = iv (z + l.length) ∧ Acc intR e B M' v (markIL z l.length) ∧ Turn B M.length M M' := by
  obtain ⟨A, n, c, rfl, hl, hA⟩ := h
  rcases hA with ⟨rfl, rfl, rfl⟩ | ⟨id, t, rfl, hid, hr⟩
  · obtain rfl := List.eq_nil_of_length_eq_zero hl
    refine (markInt64S_0 z).mono ?_
    rintro r M' ⟨rfl, rfl⟩
    exact ⟨by simp, .nil, Nat.le_refl _, fun i s hs _ => hs⟩
  · have hlt := (List.getElem?_eq_some_iff.1 hr).1
    refine (markInt64S_r (off := 0) z hr (by omega) (by rw [cellsL_len]; omega) (by omega) hz hz1).mono ?_
    rintro r M' ⟨rfl, rfl⟩
    refine ⟨by rw [hl], ⟨_, n, c, rfl, by simp [markIL, hl], .inr ⟨id, t, rfl, hid, ?_⟩⟩, by simp, fun i s hs hd => ?_⟩
    · rw [List.getElem?_set_self hlt, List.drop_of_length_le (by rw [cellsL_len]; omega), hl]
      simp
    · rw [List.getElem?_set_ne (by omega)]
      exact hs
theorem held_IntA {M : Mem} {B m : Nat} {e : TypeId} {v : Value} {z : Int} (h : Acc intR e B M v (markIL z m)) (hn : m ≤ 1048576) (hz : 0 ≤ z) (hz1 : z ≤ 1152921504606846976) : Det Tryz.prog M.length 24 [v, iv z] M (iv (z + m)) M := by
  obtain ⟨A, n, c, rfl, hl, hS, -⟩ := h.sl
  have hm : m = n := by simpa [markIL] using hl
  subst hm
  exact heldInt64S_a z hS (by omega) hz hz1
end Go.Proofs.YtimijeeihicohaaGreat

namespace Go.Proofs.YtimijeeihicohaaGreat
open Go.RowKit
set_option linter.unusedVariables false
set_option linter.unusedSimpArgs false
set_option maxRecDepth 100000
attribute [local simp] List.getElem?_cons_zero
attribute [local irreducible] awCond awCall awLoop awDraw ow retQ retC resQ Keeps
theorem Acc.turn {α : Type} {k : Nat} {R : RecV α k} {e : TypeId} {B lo hi : Nat} {M M' : Mem} {v : Value} {l : List α} (h : Acc R e B M v l) (ht : Turn lo hi M M') (hb : hi ≤ B) : Acc R e B M' v l := by
  obtain ⟨A, n, c, h1, h2, h3⟩ := h
  refine ⟨A, n, c, h1, h2, ?_⟩
  rcases h3 with h3 | ⟨id, t, h4, h5, h6⟩
  · exact .inl h3
  · exact .inr ⟨id, t, h4, h5, ht.2 id _ h6 (.inr (by omega))⟩
theorem Ctl.turn {M M' : Mem} {B oid i0 i1 i2 lo hi : Nat} {v0 v1 v2 : Value} {l0 l1 l2 : List Int} (h : Ctl M B oid i0 i1 i2 v0 v1 v2 l0 l1 l2) (ht : Turn lo hi M M') (hb : hi ≤ B) : Ctl M' B oid i0 i1 i2 v0 v1 v2 l0 l1 l2 :=
  ⟨h.low, ⟨h.orow.choose, ht.2 _ _ h.orow.choose_spec (.inr (by have := h.low; omega))⟩, h.r0.keep fun s hs => ht.2 _ _ hs (.inr (by have := h.r0.low; omega)), h.r1.keep fun s hs => ht.2 _ _ hs (.inr (by have := h.r1.low; omega)), h.r2.keep fun s hs => ht.2 _ _ hs (.inr (by have := h.r2.low; omega)), h.apart⟩
/-- No list, or three lists in rows of one's own. -/
def CtO (B : Nat) (M : Mem) (u : Value) (ls : List (List Int)) : Prop :=
  (ls = [] ∧ u = .slice none 0 0) ∨ ∃ oid i0 i1 i2 v0 v1 v2 l0 l1 l2, u = .slice (some ⟨oid, 0, none⟩) 3 3 ∧ ls = [l0, l1, l2] ∧ Ctl M B oid i0 i1 i2 v0 v1 v2 l0 l1 l2
theorem CtO.keeps {B : Nat} {M M' : Mem} {u : Value} {ls : List (List Int)} (h : CtO B M u ls) (hk : Keeps M M') : CtO B M' u ls := by
  rcases h with h | ⟨oid, i0, i1, i2, v0, v1, v2, l0, l1, l2, e, e2, h⟩
  · exact .inl h
  · exact .inr ⟨_, _, _, _, _, _, _, _, _, _, e, e2, h.keeps hk⟩
theorem CtO.turn {B lo hi : Nat} {M M' : Mem} {u : Value} {ls : List (List Int)} (h : CtO B M u ls) (ht : Turn lo hi M M') (hb : hi ≤ B) : CtO B M' u ls := by
  rcases h with h | ⟨oid, i0, i1, i2, v0, v1, v2, l0, l1, l2, e, e2, h⟩
  · exact .inl h
  · exact .inr ⟨_, _, _, _, _, _, _, _, _, _, e, e2, h.turn ht hb⟩
theorem Row1.slv {M : Mem} {B id : Nat} {v : Value} {l : List Int} (h : Row1 M B v id l) (hl : l.length ≤ 4000) : tabP.rd B M.length M l [v] := by
  obtain ⟨h1, t, c, rfl, h3⟩ := h
  have hlt := (List.getElem?_eq_some_iff.1 h3).1
  refine ⟨_, rfl, _, _, c, rfl, by omega, (fun h => by cases h), SlP.of_sl ⟨rfl, fun _ => ⟨id, 0, rfl, by simp [rowEsz, h3], fun j x hx => by simp [cellAt, h3, hx]⟩⟩ fun a e _ => ?_⟩
  injection e with e
  subst e
  exact ⟨h1, hlt⟩
theorem CtO.slv {B : Nat} {M : Mem} {u : Value} {ls : List (List Int)} (h : CtO B M u ls) (hl : ∀ l, l ∈ ls → l.length ≤ 4000) : SlV tabP B M.length M u ls := by
  rcases h with ⟨rfl, rfl⟩ | ⟨oid, i0, i1, i2, v0, v1, v2, l0, l1, l2, rfl, rfl, h⟩
  · exact .nil
  · obtain ⟨e, he⟩ := h.orow
    refine ⟨_, 3, 3, rfl, by omega, (fun h => by cases h), rfl, fun _ => ⟨oid, 0, rfl, h.low, (List.getElem?_eq_some_iff.1 he).1, by simp [rowEsz, he], fun i hi => ?_⟩⟩
    have hc : i = 0 ∨ i = 1 ∨ i = 2 := by omega
    rcases hc with rfl | rfl | rfl
    · exact ⟨[v0], h.r0.slv (hl _ (by simp)), cl_cons.2 ⟨by simp [cellAt, he], cl_nil⟩⟩
    · exact ⟨[v1], h.r1.slv (hl _ (by simp)), cl_cons.2 ⟨by simp [cellAt, he], cl_nil⟩⟩
    · exact ⟨[v2], h.r2.slv (hl _ (by simp)), cl_cons.2 ⟨by simp [cellAt, he], cl_nil⟩⟩
def ctV (x : Inst) (l : List Gate) (N : Int) : List (List Int) × Int := if codeV x l N true = 0 then ([mkC N.toNat (allP l) (ctl0 x l), mkC N.toNat (allP l) (ctl1 x l), mkC N.toNat (allP l) (ctl2 x l)], 0) else ([], codeV x l N true)
def CtS (x : Inst) (l : List Gate) (N : Int) (M : Mem) (r : Value) (M' : Mem) : Prop := ∃ u, r = .tuple #[u, iv (ctV x l N).2] ∧ CtO M.length M' u (ctV x l N).1 ∧ Same M.length M M'
theorem CtR.s {x : Inst} {l : List Gate} {N : Int} {M M' : Mem} {r : Value} (h : CtR x l N M r M') : CtS x l N M r M' := by
  obtain ⟨hs, h | h⟩ := h
  · obtain ⟨hc, oid, i0, i1, i2, v0, v1, v2, rfl, h⟩ := h
    unfold CtS ctV
    rw [if_pos hc]
    exact ⟨_, rfl, .inr ⟨_, _, _, _, _, _, _, _, _, _, rfl, rfl, h⟩, hs⟩
  · obtain ⟨hc, rfl⟩ := h
    unfold CtS ctV
    rw [if_neg hc]
    exact ⟨_, rfl, .inl ⟨rfl, rfl⟩, hs⟩
end Go.Proofs.YtimijeeihicohaaGreat
