/- Parts of the proof, together: Lists of lists are copied to rows of their own. The lists that ControlsOf hands back: equal, marked, held. The signal of a voice: the program's. Nodes, as the reference plays them. Nodes, as the reference plays them: starts, inputs, next states. No conditions. -/
import Derived.Test.YtimijeeihicohaaGreatZzRv18
import Derived.Test.YtimijeeihicohaaGreatZzRv17
import Derived.Test.YtimijeeihicohaaGreatZzRv15
namespace Go.Proofs.YtimijeeihicohaaGreat
open Go.RowKit
set_option linter.unusedVariables false
set_option linter.unusedSimpArgs false
set_option maxRecDepth 100000
attribute [local simp] List.getElem?_cons_zero
attribute [local irreducible] awCond awCall awLoop awDraw ow retQ retC resQ Keeps
section
variable {α : Type} {k : Nat} [Inhabited α]
theorem to_chainQ {P Q : RecP α k} {Mk : List Value → Value} {fn : FuncId} {e : TypeId} {z : List Value} {lo hi : Nat} {M : Mem} {A : Option Addr} {n : Nat} {l : List α} (h : SlP P lo hi M A n l) (hz : z.length = k) (hk : 0 < k)
    (hto : ∀ M1 i us, Keeps M M1 → i < n → P.rd lo hi M1 (el l i) us → ∃ vs N, Det Tryz.prog M1.length fn [Mk us] M1 (Mk vs) (M1 ++ N) ∧ Q.rd M1.length (M1 ++ N).length (M1 ++ N) (el l i) vs ∧ vs.all oneV = true ∧ (Mk vs).cells.toList = vs) :
    ∃ f : Nat → Mem, f 0 = M ++ [.live ⟨zrow z n, true, true, e, k⟩] ∧ (∀ j, j ≤ n → Keeps M (f j) ∧ M.length < (f j).length ∧ rowEsz (f j) M.length = some k) ∧
      (∀ j, j < n → ∀ id off us, A = some ⟨id, off, none⟩ → cellsAt M id (off + j * k) k = some us → ∃ vs N, Det Tryz.prog (f j).length fn [Mk us] (f j) (Mk vs) (f j ++ N) ∧ vs.length = k ∧ (Mk vs).cells.toList = vs ∧ putCells M.length (f j ++ N) M.length (j * k) vs = some (f (j + 1))) ∧
      ∃ N, f n = M ++ N ∧ PartS Q e z l M.length n n (f n) := by
  obtain ⟨f, f0, fI, fS⟩ := chain (n := n) (M0 := M ++ [.live ⟨zrow z n, true, true, e, k⟩]) (I := fun j M1 => Keeps M M1 ∧ M.length < M1.length ∧ PartS Q e z l M.length n j M1)
    (S := fun j M1 M2 => ∀ id off us, A = some ⟨id, off, none⟩ → cellsAt M id (off + j * k) k = some us → ∃ vs N, Det Tryz.prog M1.length fn [Mk us] M1 (Mk vs) (M1 ++ N) ∧ vs.length = k ∧ (Mk vs).cells.toList = vs ∧ putCells M.length (M1 ++ N) M.length (j * k) vs = some M2)
    ⟨keeps_app _, by simp, [], by simp, by simp, fun i hi => by omega⟩ fun j M1 hj ⟨hk1, hl1, hp⟩ => by
      obtain ⟨id, off, us, eA, he, hrd, hcl⟩ := h.at_ hj
      obtain ⟨vs, N, d1, d2, d3, d4⟩ := hto M1 j us hk1 hj (P.keeps hrd hk1)
      obtain ⟨M2, p1, p2, p3, p4⟩ := hp.step hj hz d2 d3 hl1
      refine ⟨M2, fun id' off' us' eA' hc' => ?_, ?_, by rw [p3, List.length_append]; omega, p2⟩
      · rw [eA] at eA'
        injection eA' with eA'
        injection eA' with e1 e2
        subst e1; subst e2
        rw [cellsAt_of hcl (P.len hrd) hk] at hc'
        injection hc' with hc'
        subst hc'
        exact ⟨vs, N, d1, Q.len d2, d4, p1⟩
      · unfold Keeps
        exact fun i s hs => p4 i s (by have := (List.getElem?_eq_some_iff.1 hs).1; omega) ((hk1.app N).get hs)
  obtain ⟨hkn, hln, cells, hr, hcl, hc⟩ := fI n (Nat.le_refl _)
  refine ⟨f, f0, fun j hj => ?_, fS, ?_⟩
  · obtain ⟨a, b, cells, hr, -⟩ := fI j hj
    exact ⟨a, b, by simp [rowEsz, hr]⟩
  · obtain ⟨N, hN⟩ := hkn.split
    exact ⟨N, hN, cells, hr, hcl, hc⟩
end
def tabO : RecP (List Int) 1 where
  rd := fun lo hi M l vs => ∃ id, vs = [.slice (some ⟨id, 0, none⟩) l.length l.length] ∧ lo ≤ id ∧ id < hi ∧ M[id]? = some (.live ⟨cellsL intR l, true, true, 2, 1⟩)
  len := fun ⟨_, h, _⟩ => by rw [h]; rfl
  agree := fun ⟨id, h1, h2, h3, h4⟩ hg => ⟨id, h1, h2, h3, hg _ _ h2 h3 h4⟩
  wide := fun ⟨id, h1, h2, h3, h4⟩ a b => ⟨id, h1, by omega, by omega, h4⟩
theorem toInt64S_o {M : Mem} {lo hi : Nat} {us : List Value} {x : List Int} (h : tabP.rd lo hi M x us) (hb : x.length ≤ 1048576) : ∃ vs N, Det Tryz.prog M.length 44 [one1 us] M (one1 vs) (M ++ N) ∧ tabO.rd M.length (M ++ N).length (M ++ N) x vs ∧ vs.all oneV = true ∧ (one1 vs).cells.toList = vs := by
  obtain ⟨u, rfl, A, n, c, rfl, h1, h2, h3⟩ := h
  have hl := h3.1
  subst hl
  exact ⟨[_], [.live ⟨cellsL intR x, true, true, 2, 1⟩], toInt64S_d h3.sl (by omega), ⟨M.length, rfl, Nat.le_refl _, by simp, by simp⟩, rfl, rfl⟩
theorem sso_of {M : Mem} {e : TypeId} {z : List Value} {l : List (List Int)} {b n : Nat} (h : PartS tabO e z l b n n M) (hl : l.length = n) (hn : n ≤ 1048576) (hb : b < M.length) : SSo b M.length M (.slice (some ⟨b, 0, none⟩) n n) l := by
  obtain ⟨cells, hr, hcl, hc⟩ := h
  rw [Nat.sub_self] at hr
  refine ⟨b, n, cells, e, rfl, hl, hn, Nat.le_refl _, hb, by simpa using hr, by rw [hcl, Nat.mul_one], fun i hi => ?_⟩
  obtain ⟨us, ⟨jd, rfl, g2, g3, g4⟩, hx⟩ := hc i hi
  have := hx 0 _ rfl
  simp only [Nat.mul_one, Nat.add_zero] at this
  exact ⟨jd, this, by omega, g3, g4⟩
theorem toInt64SS_o {M : Mem} {lo hi : Nat} {u : Value} {l : List (List Int)} (h : SlV tabP lo hi M u l) (hn : l.length ≤ 1048576) (hb : ∀ x, x ∈ l → x.length ≤ 1048576) : ∃ v N, Det Tryz.prog M.length 87 [u] M v (M ++ N) ∧ SSo M.length (M ++ N).length (M ++ N) v l := by
  obtain ⟨A, n, c, rfl, h1, h2, h3⟩ := h
  have hl := h3.1
  obtain ⟨f, f0, fI, fS, N, fN, hS⟩ := to_chainQ (P := tabP) (Q := tabO) (Mk := one1) (fn := 44) (e := 24) (z := [.slice none 0 0]) h3 rfl (by omega) (fun M1 i us hk hi hrd => toInt64S_o hrd (hb _ (el_mem (by omega))))
  have hN := fI n (Nat.le_refl _)
  rw [fN] at hS
  refine ⟨.slice (some ⟨M.length, 0, none⟩) n n, N, Ctr.det ?_, sso_of hS hl (by omega) (by have := hN.2.1; rwa [fN] at this)⟩
  first | (refine ctr_fn Tryz.func87 rfl Tryz.ntmps87 Tryz.results87 rfl rfl (by simp) ?_) | (refine ctr_fnC Tryz.func87 rfl Tryz.ntmps87 Tryz.results87 rfl (by simp) ?_)
  simp
  refine ⟨by omega, ?_⟩
  refine awLoop_T (fun m T M' => ∃ k : Nat, k + m = n ∧ M' = f k ∧ look T 4 = some (iv k) ∧ look T 0 = some (.slice A n c) ∧ look T 3 = some (.slice (some ⟨M.length, 0, none⟩) n n)) n ⟨0, by omega, by rw [f0], by simp, by simp, by simp⟩ ?_
  rintro m T M' ⟨k, hm, rfl, h4, h0, h3'⟩
  by_cases hlt : k < n
  · obtain ⟨id, off, us, rfl, he, hrd, hc⟩ := h3.at_ hlt
    obtain ⟨g1, g2, g3⟩ := fI k (by omega)
    obtain ⟨vs, N', d1, d2, d2', d3⟩ := fS k hlt id off us rfl (cellsAt_of hc (tabP.len hrd) (by omega))
    obtain ⟨u, rfl, hu⟩ := hrd
    have c1 := (cl_cons.1 hc).1
    simp only [Nat.mul_one] at c1
    have c2 := cellAt_keeps g1 c1
    simp (disch := omega) [h3', h4, h0, hlt, wrap_in, c2, g3, rowEsz_keeps g1 he]
    refine awCall_det' d1 (by omega) ?_
    have g4 : rowEsz (f k ++ N') M.length = some 1 := rowEsz_keeps (keeps_app _) g3
    have hsz : (one1 vs).cells.size = 1 := by rw [← Array.length_toList, d2', d2]
    try simp (disch := omega) [h3', h4, h0, g4, wrap_in, hlt]
    refine ⟨hsz.symm, ?_⟩
    simp only [Nat.mul_one] at d3
    try rw [d2']
    rw [d3, ow_some]
    try simp (disch := omega) [h3', h4, h0, wrap_in]
    exact lpI (m - 1) (by omega) ⟨k + 1, by omega, rfl, by simp, by simp [h0], by simp [h3']⟩
  · obtain rfl : k = n := by omega
    simp [h3', h4, h0]
    exact fN
/-- A list of numbers in a row of one's own. -/
theorem Acc.owl {e : TypeId} {B : Nat} {M : Mem} {v : Value} {l : List Int} (h : Acc intR e B M v l) (hn : l.length ≤ 1099511627776) : OwL intR B M.length M v l := by
  obtain ⟨A, n, c, rfl, hl, hA⟩ := h
  rcases hA with ⟨rfl, rfl, rfl⟩ | ⟨id, t, rfl, hid, hr⟩
  · exact ⟨none, 0, 0, rfl, by omega, ⟨hl, fun h => by omega⟩, (fun a e => by cases e), fun h => by omega⟩
  · refine ⟨_, n, c, rfl, by omega, ⟨hl, fun _ => ⟨id, 0, rfl, by simp [rowEsz, hr], fun j x hx => by simp [cellAt, hr, hx]⟩⟩, fun a e _ => ?_, fun _ => ⟨id, 0, _, rfl, hr, rfl⟩⟩
    injection e with e
    subst e
    exact ⟨hid, (List.getElem?_eq_some_iff.1 hr).1⟩
theorem mark_IntA {M : Mem} {b B : Nat} {e : TypeId} {v : Value} {l : List Int} {z : Int} (h : Acc intR e B M v l) (hb : b ≤ B) (hn : l.length ≤ 1048576) (hz : 0 ≤ z) (hz1 : z ≤ 1152921504606846976) :
    Ctr Tryz.prog b 23 [v, iv z] M fun r M' => r = iv (z + l.length) ∧ Acc intR e B M' v (markIL z l.length) ∧ Turn B M.length M M' := by
  obtain ⟨A, n, c, rfl, hl, hA⟩ := h
  rcases hA with ⟨rfl, rfl, rfl⟩ | ⟨id, t, rfl, hid, hr⟩
  · obtain rfl := List.eq_nil_of_length_eq_zero hl
    refine (markInt64S_0 z).mono ?_
    rintro r M' ⟨rfl, rfl⟩
    exact ⟨by simp, .nil, Nat.le_refl _, fun i s hs _ => hs⟩
  · have hlt := (List.getElem?_eq_some_iff.1 hr).1
    refine (markInt64S_r (off := 0) z hr (by omega) (by rw [cellsL_len]; omega) (by omega) hz hz1).mono ?_
    rintro r M' ⟨rfl, rfl⟩
    refine ⟨by rw [hl], ⟨_, n, c, rfl, by simp [markIL, hl], .inr ⟨id, t, rfl, hid, ?_⟩⟩, by simp, fun i s hs hd => ?_⟩
    · rw [List.getElem?_set_self hlt, List.drop_of_length_le (by rw [cellsL_len]; omega), hl]
      simp
    · rw [List.getElem?_set_ne (by omega)]
      exact hs
theorem held_IntA {M : Mem} {B m : Nat} {e : TypeId} {v : Value} {z : Int} (h : Acc intR e B M v (markIL z m)) (hn : m ≤ 1048576) (hz : 0 ≤ z) (hz1 : z ≤ 1152921504606846976) : Det Tryz.prog M.length 24 [v, iv z] M (iv (z + m)) M := by
  obtain ⟨A, n, c, rfl, hl, hS, -⟩ := h.sl
  have hm : m = n := by simpa [markIL] using hl
  subst hm
  exact heldInt64S_a z hS (by omega) hz hz1
end Go.Proofs.YtimijeeihicohaaGreat

namespace Go.Proofs.YtimijeeihicohaaGreat
open Go.RowKit
set_option linter.unusedVariables false
set_option linter.unusedSimpArgs false
set_option maxRecDepth 100000
attribute [local simp] List.getElem?_cons_zero
attribute [local irreducible] awCond awCall awLoop awDraw ow retQ retC resQ Keeps
theorem Acc.turn {α : Type} {k : Nat} {R : RecV α k} {e : TypeId} {B lo hi : Nat} {M M' : Mem} {v : Value} {l : List α} (h : Acc R e B M v l) (ht : Turn lo hi M M') (hb : hi ≤ B) : Acc R e B M' v l := by
  obtain ⟨A, n, c, h1, h2, h3⟩ := h
  refine ⟨A, n, c, h1, h2, ?_⟩
  rcases h3 with h3 | ⟨id, t, h4, h5, h6⟩
  · exact .inl h3
  · exact .inr ⟨id, t, h4, h5, ht.2 id _ h6 (.inr (by omega))⟩
theorem Ctl.turn {M M' : Mem} {B oid i0 i1 i2 lo hi : Nat} {v0 v1 v2 : Value} {l0 l1 l2 : List Int} (h : Ctl M B oid i0 i1 i2 v0 v1 v2 l0 l1 l2) (ht : Turn lo hi M M') (hb : hi ≤ B) : Ctl M' B oid i0 i1 i2 v0 v1 v2 l0 l1 l2 :=
  ⟨h.low, ⟨h.orow.choose, ht.2 _ _ h.orow.choose_spec (.inr (by have := h.low; omega))⟩, h.r0.keep fun s hs => ht.2 _ _ hs (.inr (by have := h.r0.low; omega)), h.r1.keep fun s hs => ht.2 _ _ hs (.inr (by have := h.r1.low; omega)), h.r2.keep fun s hs => ht.2 _ _ hs (.inr (by have := h.r2.low; omega)), h.apart⟩
def totL (ls : List (List Int)) : Nat := (ls.map List.length).sum
def mkLL (z : Int) : List (List Int) → List (List Int)
  | [] => []
  | l :: ls => markIL z l.length :: mkLL (z + l.length) ls
/-- No list, or three lists in rows of one's own. -/
def CtO (B : Nat) (M : Mem) (u : Value) (ls : List (List Int)) : Prop :=
  (ls = [] ∧ u = .slice none 0 0) ∨ ∃ oid i0 i1 i2 v0 v1 v2 l0 l1 l2, u = .slice (some ⟨oid, 0, none⟩) 3 3 ∧ ls = [l0, l1, l2] ∧ Ctl M B oid i0 i1 i2 v0 v1 v2 l0 l1 l2
theorem CtO.keeps {B : Nat} {M M' : Mem} {u : Value} {ls : List (List Int)} (h : CtO B M u ls) (hk : Keeps M M') : CtO B M' u ls := by
  rcases h with h | ⟨oid, i0, i1, i2, v0, v1, v2, l0, l1, l2, e, e2, h⟩
  · exact .inl h
  · exact .inr ⟨_, _, _, _, _, _, _, _, _, _, e, e2, h.keeps hk⟩
theorem CtO.turn {B lo hi : Nat} {M M' : Mem} {u : Value} {ls : List (List Int)} (h : CtO B M u ls) (ht : Turn lo hi M M') (hb : hi ≤ B) : CtO B M' u ls := by
  rcases h with h | ⟨oid, i0, i1, i2, v0, v1, v2, l0, l1, l2, e, e2, h⟩
  · exact .inl h
  · exact .inr ⟨_, _, _, _, _, _, _, _, _, _, e, e2, h.turn ht hb⟩
theorem Row1.slv {M : Mem} {B id : Nat} {v : Value} {l : List Int} (h : Row1 M B v id l) (hl : l.length ≤ 4000) : tabP.rd B M.length M l [v] := by
  obtain ⟨h1, t, c, rfl, h3⟩ := h
  have hlt := (List.getElem?_eq_some_iff.1 h3).1
  refine ⟨_, rfl, _, _, c, rfl, by omega, (fun h => by cases h), SlP.of_sl ⟨rfl, fun _ => ⟨id, 0, rfl, by simp [rowEsz, h3], fun j x hx => by simp [cellAt, h3, hx]⟩⟩ fun a e _ => ?_⟩
  injection e with e
  subst e
  exact ⟨h1, hlt⟩
theorem CtO.slv {B : Nat} {M : Mem} {u : Value} {ls : List (List Int)} (h : CtO B M u ls) (hl : ∀ l, l ∈ ls → l.length ≤ 4000) : SlV tabP B M.length M u ls := by
  rcases h with ⟨rfl, rfl⟩ | ⟨oid, i0, i1, i2, v0, v1, v2, l0, l1, l2, rfl, rfl, h⟩
  · exact .nil
  · obtain ⟨e, he⟩ := h.orow
    refine ⟨_, 3, 3, rfl, by omega, (fun h => by cases h), rfl, fun _ => ⟨oid, 0, rfl, h.low, (List.getElem?_eq_some_iff.1 he).1, by simp [rowEsz, he], fun i hi => ?_⟩⟩
    have hc : i = 0 ∨ i = 1 ∨ i = 2 := by omega
    rcases hc with rfl | rfl | rfl
    · exact ⟨[v0], h.r0.slv (hl _ (by simp)), cl_cons.2 ⟨by simp [cellAt, he], cl_nil⟩⟩
    · exact ⟨[v1], h.r1.slv (hl _ (by simp)), cl_cons.2 ⟨by simp [cellAt, he], cl_nil⟩⟩
    · exact ⟨[v2], h.r2.slv (hl _ (by simp)), cl_cons.2 ⟨by simp [cellAt, he], cl_nil⟩⟩
theorem markIL_len {z : Int} {n : Nat} : (markIL z n).length = n := by simp [markIL]
/-- A list in a row of one's own is marked. -/
theorem markInt64S_1 {M : Mem} {b B id : Nat} {v : Value} {l : List Int} (z : Int) (h : Row1 M B v id l) (hb : b ≤ B) (hl : l.length ≤ 4000) (hz0 : 0 ≤ z) (hz : z ≤ 1048576) :
    Ctr Tryz.prog b 23 [v, iv z] M fun r M' => r = iv (z + l.length) ∧ Row1 M' B v id (markIL z l.length) ∧ M'.length = M.length ∧ ∀ (q : Nat) s, q ≠ id → M[q]? = some s → M'[q]? = some s := by
  obtain ⟨h1, t, c, rfl, h3⟩ := h
  have hlt := (List.getElem?_eq_some_iff.1 h3).1
  refine (markInt64S_r (off := 0) z h3 (by omega) (by rw [cellsL_len]; omega) (by omega) hz0 (by omega)).mono ?_
  rintro r M' ⟨rfl, rfl⟩
  refine ⟨rfl, ⟨h1, t, c, by rw [markIL_len], ?_⟩, by simp, fun q s hq hs => by rw [List.getElem?_set_ne (Ne.symm hq)]; exact hs⟩
  rw [List.getElem?_set_self hlt, List.drop_of_length_le (by rw [cellsL_len]; omega)]
  simp
theorem mark_CtO {M : Mem} {b B : Nat} {u : Value} {ls : List (List Int)} (h : CtO B M u ls) (hb : b ≤ B) (hl : ∀ l, l ∈ ls → l.length ≤ 4000) :
    Ctr Tryz.prog b 18 [u, iv 1] M fun v M' => v = iv (1 + totL ls) ∧ CtO B M' u (mkLL 1 ls) ∧ Turn B M.length M M' := by
  rcases h with ⟨rfl, rfl⟩ | ⟨oid, i0, i1, i2, v0, v1, v2, l0, l1, l2, rfl, rfl, h⟩
  · first | (refine ctr_fn Tryz.func18 rfl Tryz.ntmps18 Tryz.results18 rfl rfl (by simp) ?_) | (refine ctr_fnC Tryz.func18 rfl Tryz.ntmps18 Tryz.results18 rfl (by simp) ?_)
    simp
    refine awLoop_T (fun m T M' => M' = M ∧ look T 5 = some (iv 0) ∧ look T 1 = some (iv 1) ∧ look T 0 = some (.slice none 0 0)) 0 ⟨rfl, by simp, by simp, by simp⟩ ?_
    rintro m T M' ⟨rfl, h5, h1, h0⟩
    simp [h5, h1, h0]
    exact ⟨rfl, .inl ⟨rfl, rfl⟩, ⟨Nat.le_refl _, fun i s hs _ => hs⟩⟩
  · have w0 := hl l0 (by simp)
    have w1 := hl l1 (by simp)
    have w2 := hl l2 (by simp)
    have ha := h.apart
    obtain ⟨e, he⟩ := h.orow
    have sum : totL [l0, l1, l2] = l0.length + l1.length + l2.length := by simp [totL]; omega
    first | (refine ctr_fn Tryz.func18 rfl Tryz.ntmps18 Tryz.results18 rfl rfl (by simp) ?_) | (refine ctr_fnC Tryz.func18 rfl Tryz.ntmps18 Tryz.results18 rfl (by simp) ?_)
    simp
    refine awLoop_T (fun m T M' => ∃ (j : Nat) (z : Int) (q0 q1 q2 : List Int), j + m = 3 ∧ M'.length = M.length ∧ Turn B M.length M M' ∧ Ctl M' B oid i0 i1 i2 v0 v1 v2 q0 q1 q2 ∧ M'[oid]? = some (.live ⟨[v0, v1, v2], true, true, e, 1⟩) ∧ q0 = (if 0 < j then markIL 1 l0.length else l0) ∧ q1 = (if 1 < j then markIL (1 + l0.length) l1.length else l1) ∧ q2 = (if 2 < j then markIL (1 + l0.length + l1.length) l2.length else l2) ∧
        z = 1 + ((if 0 < j then l0.length else 0) + (if 1 < j then l1.length else 0) + (if 2 < j then l2.length else 0) : Nat) ∧ look T 5 = some (iv j) ∧ look T 1 = some (iv z) ∧ look T 0 = some (.slice (some ⟨oid, 0, none⟩) 3 3)) 3 ⟨0, 1, l0, l1, l2, by omega, rfl, ⟨Nat.le_refl _, fun i s hs _ => hs⟩, h, he, by simp, by simp, by simp, by simp, by simp, by simp, by simp⟩ ?_
    rintro m T M1 ⟨j, z, q0, q1, q2, hm, hlen, ht, hc, ho, rfl, rfl, rfl, rfl, t5, t1, t0⟩
    have hlow := h.low
    by_cases hlt : j < 3
    · have hez : rowEsz M1 oid = some 1 := by simp [rowEsz, ho]
      have hjj : j = 0 ∨ j = 1 ∨ j = 2 := by omega
      rcases hjj with rfl | rfl | rfl
      · simp only [Nat.lt_irrefl, if_false, Nat.not_lt_zero, if_neg (show ¬ 1 < 0 by omega), if_neg (show ¬ 2 < 0 by omega)] at hc t1
        have c1 : cellAt M1 oid 0 = some v0 := by simp [cellAt, ho]
        have r0 := hc.r0
        simp (disch := omega) [t5, t1, t0, c1, hez, wrap_in]
        refine awCall_ctr (markInt64S_1 _ r0 hb w0 (by omega) (by omega)) ?_
        rintro _ M2 ⟨rfl, hr, hl2, hk⟩
        try simp (disch := omega) [t5, wrap_in]
        refine lpI (m - 1) (by omega) ⟨1, _, _, _, _, by omega, by omega, ⟨by omega, fun i s hs hd => hk i s (by have := hc.r0.low; have := (List.getElem?_eq_some_iff.1 hs).1; have := (List.getElem?_eq_some_iff.1 hc.r0.row.choose_spec.choose_spec.2).1; omega) (ht.2 i s hs hd)⟩, ⟨hlow, ⟨e, hk _ _ (Ne.symm ha.2.2.2.1) ho⟩, hr, hc.r1.keep fun s hs => hk _ _ (Ne.symm ha.1) hs, hc.r2.keep fun s hs => hk _ _ (Ne.symm ha.2.1) hs, ha⟩, hk _ _ (Ne.symm ha.2.2.2.1) ho, by simp, by simp, by simp, rfl, by simp, by simp, by simp [t0]⟩
      · simp only [Nat.lt_irrefl, if_false, if_pos (show 0 < 1 by omega), if_neg (show ¬ 2 < 1 by omega)] at hc t1
        have c1 : cellAt M1 oid 1 = some v1 := by simp [cellAt, ho]
        have r1 := hc.r1
        simp (disch := omega) [t5, t1, t0, c1, hez, wrap_in]
        refine awCall_ctr (markInt64S_1 _ r1 hb w1 (by omega) (by omega)) ?_
        rintro _ M2 ⟨rfl, hr, hl2, hk⟩
        try simp (disch := omega) [t5, wrap_in]
        refine lpI (m - 1) (by omega) ⟨2, _, _, _, _, by omega, by omega, ⟨by omega, fun i s hs hd => hk i s (by have := hc.r1.low; have := (List.getElem?_eq_some_iff.1 hs).1; have := (List.getElem?_eq_some_iff.1 hc.r1.row.choose_spec.choose_spec.2).1; omega) (ht.2 i s hs hd)⟩, ⟨hlow, ⟨e, hk _ _ (Ne.symm ha.2.2.2.2.1) ho⟩, hc.r0.keep fun s hs => hk _ _ ha.1 hs, hr, hc.r2.keep fun s hs => hk _ _ (Ne.symm ha.2.2.1) hs, ha⟩, hk _ _ (Ne.symm ha.2.2.2.2.1) ho, by simp, by simp, by simp, rfl, by simp, by simp; omega, by simp [t0]⟩
      · simp only [Nat.lt_irrefl, if_false, if_pos (show 0 < 2 by omega), if_pos (show 1 < 2 by omega)] at hc t1
        have c1 : cellAt M1 oid 2 = some v2 := by simp [cellAt, ho]
        have r2 := hc.r2
        simp (disch := omega) [t5, t1, t0, c1, hez, wrap_in]
        refine awCall_ctr (markInt64S_1 _ r2 hb w2 (by omega) (by omega)) ?_
        rintro _ M2 ⟨rfl, hr, hl2, hk⟩
        try simp (disch := omega) [t5, wrap_in]
        refine lpI (m - 1) (by omega) ⟨3, _, _, _, _, by omega, by omega, ⟨by omega, fun i s hs hd => hk i s (by have := hc.r2.low; have := (List.getElem?_eq_some_iff.1 hs).1; have := (List.getElem?_eq_some_iff.1 hc.r2.row.choose_spec.choose_spec.2).1; omega) (ht.2 i s hs hd)⟩, ⟨hlow, ⟨e, hk _ _ (Ne.symm ha.2.2.2.2.2) ho⟩, hc.r0.keep fun s hs => hk _ _ ha.2.1 hs, hc.r1.keep fun s hs => hk _ _ ha.2.2.1 hs, hr, ha⟩, hk _ _ (Ne.symm ha.2.2.2.2.2) ho, by simp, by simp, by simp [Int.add_assoc], rfl, by simp, by simp; omega, by simp [t0]⟩
    · obtain rfl : j = 3 := by omega
      simp only [if_pos (show 0 < 3 by omega), if_pos (show 1 < 3 by omega), if_pos (show 2 < 3 by omega)] at hc t1
      simp [t5, t1, t0]
      rw [sum]
      exact ⟨by simp, .inr ⟨_, _, _, _, _, _, _, _, _, _, rfl, rfl, hc⟩, ht⟩
theorem held_CtO {M : Mem} {B : Nat} {u : Value} {ls : List (List Int)} (h : CtO B M u (mkLL 1 ls)) (hl : ∀ l, l ∈ ls → l.length ≤ 4000) :
    Det Tryz.prog M.length 19 [u, iv 1] M (iv (1 + totL ls)) M := by
  rcases h with ⟨hn, rfl⟩ | ⟨oid, i0, i1, i2, v0, v1, v2, l0, l1, l2, rfl, e2, h⟩
  · have : ls = [] := by
      cases ls with
      | nil => rfl
      | cons a b => cases hn
    subst this
    first | (refine det_fn Tryz.func19 rfl Tryz.ntmps19 Tryz.results19 rfl rfl rfl (by simp) ?_) | (refine det_fnC Tryz.func19 rfl Tryz.ntmps19 Tryz.results19 rfl rfl (by simp) ?_)
    simp
    refine awLoop_T (fun m T M' => M' = M ∧ look T 5 = some (iv 0) ∧ look T 1 = some (iv 1) ∧ look T 0 = some (.slice none 0 0)) 0 ⟨rfl, by simp, by simp, by simp⟩ ?_
    rintro m T M' ⟨rfl, h5, h1, h0⟩
    simp [h5, h1, h0, totL, Keeps.refl]
  · obtain ⟨p0, p1, p2, rfl⟩ : ∃ p0 p1 p2, ls = [p0, p1, p2] := by
      match ls, e2 with
      | [a, b, c], _ => exact ⟨a, b, c, rfl⟩
    simp only [mkLL, List.cons.injEq, and_true] at e2
    obtain ⟨rfl, rfl, rfl⟩ := e2
    have w0 := hl p0 (by simp)
    have w1 := hl p1 (by simp)
    have w2 := hl p2 (by simp)
    have sum : totL [p0, p1, p2] = p0.length + p1.length + p2.length := by simp [totL]; omega
    obtain ⟨e, he⟩ := h.orow
    have hez : rowEsz M oid = some 1 := by simp [rowEsz, he]
    first | (refine det_fn Tryz.func19 rfl Tryz.ntmps19 Tryz.results19 rfl rfl rfl (by simp) ?_) | (refine det_fnC Tryz.func19 rfl Tryz.ntmps19 Tryz.results19 rfl rfl (by simp) ?_)
    simp
    refine awLoop_T (fun m T M' => ∃ (j : Nat), j + m = 3 ∧ M' = M ∧ look T 5 = some (iv j) ∧ look T 1 = some (iv (1 + ((if 0 < j then p0.length else 0) + (if 1 < j then p1.length else 0) + (if 2 < j then p2.length else 0) : Nat))) ∧ look T 0 = some (.slice (some ⟨oid, 0, none⟩) 3 3)) 3 ⟨0, by omega, rfl, by simp, by simp, by simp⟩ ?_
    rintro m T M1 ⟨j, hm, rfl, t5, t1, t0⟩
    by_cases hlt : j < 3
    · have hjj : j = 0 ∨ j = 1 ∨ j = 2 := by omega
      have hd : ∀ {v : Value} {id : Nat} {z : Int} {n : Nat}, Row1 M1 B v id (markIL z n) → n ≤ 4000 → 0 ≤ z → z ≤ 1048576 → Det Tryz.prog M1.length 24 [v, iv z] M1 (iv (z + n)) M1 := by
        intro v id z n hr hn hz0 hz
        obtain ⟨-, t, c, rfl, h3⟩ := hr
        rw [markIL_len]
        exact heldInt64S_a z ⟨markIL_len, fun _ => ⟨id, 0, rfl, by simp [rowEsz, h3], fun j x hx => by simp [cellAt, h3, hx]⟩⟩ (by omega) hz0 (by omega)
      rcases hjj with rfl | rfl | rfl
      · have c1 : cellAt M1 oid 0 = some v0 := by simp [cellAt, he]
        simp at t1
        simp (disch := omega) [t5, t1, t0, c1, hez, wrap_in]
        refine awCall_det' (hd h.r0 w0 (by omega) (by omega)) (by omega) ?_
        have hng : ¬ (1 + (p0.length : Int) < 0) := by omega
        simp (disch := omega) [t5, wrap_in, hng]
        exact lpI (m - 1) (by omega) ⟨1, by omega, rfl, by simp, by simp, by simp [t0]⟩
      · have c1 : cellAt M1 oid 1 = some v1 := by simp [cellAt, he]
        simp at t1
        simp (disch := omega) [t5, t1, t0, c1, hez, wrap_in]
        refine awCall_det' (hd h.r1 w1 (by omega) (by omega)) (by omega) ?_
        have hng : ¬ (1 + (p0.length : Int) + p1.length < 0) := by omega
        simp (disch := omega) [t5, wrap_in, hng]
        exact lpI (m - 1) (by omega) ⟨2, by omega, rfl, by simp, by simp; omega, by simp [t0]⟩
      · have c1 : cellAt M1 oid 2 = some v2 := by simp [cellAt, he]
        simp at t1
        have t1' : look T 1 = some (iv (1 + p0.length + p1.length)) := by rw [t1]; simp; omega
        simp (disch := omega) [t5, t1', t0, c1, hez, wrap_in]
        refine awCall_det' (hd h.r2 w2 (by omega) (by omega)) (by omega) ?_
        have hng : ¬ (1 + (p0.length : Int) + p1.length + p2.length < 0) := by omega
        simp (disch := omega) [t5, wrap_in, hng]
        exact lpI (m - 1) (by omega) ⟨3, by omega, rfl, by simp, by simp; omega, by simp [t0]⟩
    · obtain rfl : j = 3 := by omega
      simp at t1
      simp [t5, t1, t0, sum, Keeps.refl]
def ctV (x : Inst) (l : List Gate) (N : Int) : List (List Int) × Int := if codeV x l N true = 0 then ([mkC N.toNat (allP l) (ctl0 x l), mkC N.toNat (allP l) (ctl1 x l), mkC N.toNat (allP l) (ctl2 x l)], 0) else ([], codeV x l N true)
def CtS (x : Inst) (l : List Gate) (N : Int) (M : Mem) (r : Value) (M' : Mem) : Prop := ∃ u, r = .tuple #[u, iv (ctV x l N).2] ∧ CtO M.length M' u (ctV x l N).1 ∧ Same M.length M M'
theorem CtR.s {x : Inst} {l : List Gate} {N : Int} {M M' : Mem} {r : Value} (h : CtR x l N M r M') : CtS x l N M r M' := by
  obtain ⟨hs, h | h⟩ := h
  · obtain ⟨hc, oid, i0, i1, i2, v0, v1, v2, rfl, h⟩ := h
    unfold CtS ctV
    rw [if_pos hc]
    exact ⟨_, rfl, .inr ⟨_, _, _, _, _, _, _, _, _, _, rfl, rfl, h⟩, hs⟩
  · obtain ⟨hc, rfl⟩ := h
    unfold CtS ctV
    rw [if_neg hc]
    exact ⟨_, rfl, .inl ⟨rfl, rfl⟩, hs⟩
theorem ctV_len {x : Inst} {l : List Gate} {N : Int} : ∀ q, q ∈ (ctV x l N).1 → q.length ≤ 4000 := by
  intro q hq
  unfold ctV at hq
  split at hq
  · rename_i hc
    have h3 := inB_iff.1 (codeV_ok hc).2.2.1
    simp at hq
    rcases hq with rfl | rfl | rfl <;> (rw [mkC_len]; omega)
  · simp at hq
end Go.Proofs.YtimijeeihicohaaGreat

namespace Go.Proofs.YtimijeeihicohaaGreat
open Go.RowKit
set_option linter.unusedVariables false
set_option linter.unusedSimpArgs false
set_option maxRecDepth 100000
attribute [local simp] List.getElem?_cons_zero
attribute [local irreducible] awCond awCall awLoop awDraw ow retQ retC resQ Keeps
def ctlL (x : Inst) (l : List Gate) (N : Nat) : List (List Int) := [mkC N (allP l) (ctl0 x l), mkC N (allP l) (ctl1 x l), mkC N (allP l) (ctl2 x l)]
def voL (x : Inst) (l : List Gate) (N : Nat) : List Int := (rendS x.pat (ctlL x l N) N).1
theorem voL_len {x : Inst} {l : List Gate} {N : Nat} : (voL x l N).length = N := rendS_len N
theorem patB_of {p : Patch} (h : patB p = true) : formB p = true ∧ (ordL p.nodes).length = p.nodes.length := by
  unfold patB at h
  simpa using h
theorem instB_pat {x : Inst} (h : instB x = true) : formB x.pat = true ∧ (ordL x.pat.nodes).length = x.pat.nodes.length ∧ x.pat.inp = 3 ∧ x.pat.outs.length = 1 ∧ 0 < x.pat.nodes.length := by
  unfold instB at h
  simp only [Bool.and_eq_true, decide_eq_true_eq] at h
  obtain ⟨h1, h2, h3, -⟩ := h
  obtain ⟨a, b⟩ := patB_of h1
  refine ⟨a, b, h2, h3, ?_⟩
  have hi : idxB x.pat.nodes.length x.pat.outs = true := by
    unfold formB at a
    simp only [Bool.and_eq_true] at a
    exact a.1.2
  have := inB_iff.1 (List.all_eq_true.1 hi _ (el_mem (l := x.pat.outs) (i := 0) (by omega)))
  omega
theorem Play.thin {B B' : Nat} {M : Mem} {us : List Value} {p : Patch} {PB oid vid cid : Nat} {vals : List Int} {vs : List Value} {cs : List (List Int)} {Y : Nat → Prop} (h : Play Y B M us p PB oid vid cid vals vs cs) (hb : B' ≤ B) : Play Y B' M us p PB oid vid cid vals vs cs :=
  ⟨⟨Nat.le_trans hb h.low.1, Nat.le_trans hb h.low.2.1, Nat.le_trans hb h.low.2.2.1, Nat.le_trans hb h.low.2.2.2⟩, h.box, h.ord, h.val, h.cel, h.len, h.elt, h.ne⟩
def RendK (M : Mem) (l : List Int) (r : Value) (M' : Mem) : Prop := ∃ uid v lo3 hi3, r = .slice (some ⟨uid, 0, none⟩) 1 1 ∧ cellAt M' uid 0 = some v ∧ rowEsz M' uid = some 1 ∧ SlV intP lo3 hi3 M' v l ∧ Keeps M M'
theorem render_i {M : Mem} {lo hi lo2 hi2 N : Nat} {us : List Value} {p : Patch} {ins : List (List Int)} {iw : Value} (h : patchP.rd lo hi M p us) (hf : formB p = true) (ho : (ordL p.nodes).length = p.nodes.length) (h0 : 0 < p.nodes.length) (hins : SlV tabP lo2 hi2 M iw ins) (hin : p.inp = ins.length) (hout : p.outs.length = 1) (hN : N ≤ 4000) (hM : hi ≤ M.length ∧ hi2 ≤ M.length) :
    Ctr Tryz.prog M.length 101 [.agg us.toArray, iw, iv N] M fun r M' => RendK M (rendS p ins N).1 r M' := by
  obtain ⟨hn24, hidx, hnF⟩ := formB_nodes hf
  have hok : ∀ y, y ∈ p.nodes → NodeOk p y := fun y hy => nodeF_ok (hnF y hy)
  obtain ⟨A1, n1, c1, A2, n2, c2, A3, n3, c3, rfl⟩ := patch_isV h
  obtain ⟨Ai, ni, ci, rfl, w1, w2, w3⟩ := id hins
  first | (refine ctr_fn Tryz.func101 rfl Tryz.ntmps101 Tryz.results101 rfl rfl (by simp) ?_) | (refine ctr_fnC Tryz.func101 rfl Tryz.ntmps101 Tryz.results101 rfl (by simp) ?_)
  simp
  obtain ⟨M0, hM0⟩ : ∃ M0 : Mem, M0 = M ++ [Slot.live ⟨[iv p.inp, .slice A1 n1 c1, .slice A2 n2 c2, .slice A3 n3 c3], true, true, 39, 4⟩] := ⟨_, rfl⟩
  have k0 : Keeps M M0 := by rw [hM0]; exact keeps_app _
  have l0 : M0.length = M.length + 1 := by rw [hM0]; simp
  have b4 : cellsAt M0 M.length 0 4 = some [iv p.inp, .slice A1 n1 c1, .slice A2 n2 c2, .slice A3 n3 c3] := by rw [hM0]; simp
  rw [← hM0]
  clear hM0
  refine awDraw_K (fun j => if j = 2 ∨ j = 3 then [6] else []) (fun k v M' => match k with
    | 0 => v = .agg #[iv p.inp, .slice A1 n1 c1, .slice A2 n2 c2, .slice A3 n3 c3]
    | 1 => v = .agg #[iv p.inp, .slice A1 n1 c1, .slice A2 n2 c2, .slice A3 n3 c3]
    | 2 => ∃ sv lo hi, v = .agg #[sv] ∧ SlV tabP lo hi M' sv (p.nodes.map startV)
    | 3 => ∃ PB oid vid cid vs, v = .pointer (some ⟨PB, 0, none⟩) ∧ Play (fun i => i = vid ∨ i = cid) M0.length M' [iv p.inp, .slice A1 n1 c1, .slice A2 n2 c2, .slice A3 n3 c3] p PB oid vid cid (List.replicate p.nodes.length 0) vs (p.nodes.map startV)
    | 4 => v = .slice Ai ni ci
    | 5 => v = iv N
    | 6 => RendK M (rendS p ins N).1 v M'
    | 7 => RendK M (rendS p ins N).1 v M'
    | _ => True) ?_ (by kernel_rfl) (by decide +kernel) (by decide +kernel) ?_ ?_
  · intro k v M1 M2 h hk
    have rk : RendK M (rendS p ins N).1 v M1 → RendK M (rendS p ins N).1 v M2 := fun ⟨uid, w, lo3, hi3, a, b, c, d, e⟩ => ⟨uid, w, lo3, hi3, a, cellAt_keeps hk b, rowEsz_keeps hk c, d.keeps hk, e.trans hk⟩
    rcases k with _ | _ | _ | _ | _ | _ | _ | _ | k
    · exact h
    · exact h
    · obtain ⟨sv, lo, hi, a, b⟩ := h
      exact ⟨sv, lo, hi, a, b.keeps hk⟩
    · obtain ⟨PB, oid, vid, cid, vs, a, b⟩ := h
      exact ⟨PB, oid, vid, cid, vs, a, Play.keeps b hk⟩
    · exact h
    · exact h
    · exact rk h
    · exact rk h
    · trivial
  · intro X k o T M1 K hC hX hk hp' hf' ho' hK
    have kk1 := k0.trans hk
    have lk : M0.length ≤ M1.length := hk.len
    have t3 := hf' 3 (by decide +kernel)
    have t1 := hf' 1 (by decide +kernel)
    have t2 := hf' 2 (by decide +kernel)
    simp at t3 t1 t2
    rcases k with _ | _ | _ | _ | _ | _ | _ | _ | k
    · simp at ho'; subst ho'
      simp [t3, cellsAt_keeps hk b4]
      exact hK _ _ (.inl (Keeps.refl _)) rfl
    · simp at ho'; subst ho'
      simp [t3, cellsAt_keeps hk b4]
      exact hK _ _ (.inl (Keeps.refl _)) rfl
    · obtain ⟨v, d, q⟩ := hp' 1 8 (by decide +kernel) rfl
      rw [q (by simp)] at d
      simp at ho'; subst ho'
      simp [d]
      refine awCall_ctr ((startState_i (patchP.keeps h kk1) hok hn24).weaken (by omega)) ?_
      rintro _ M2 ⟨v, rfl, hL, k1⟩
      exact hK _ _ (.inl k1) ⟨v, _, _, rfl, hL.slv (fun c hc => by
        obtain ⟨k, hk, rfl⟩ := List.getElem_of_mem hc
        simp at hk ⊢
        exact startV_small (hok _ (List.getElem_mem _))) (by simp; omega)⟩
    · obtain ⟨v7, d7, q7⟩ := hp' 0 7 (by decide +kernel) rfl
      obtain ⟨v9, d9, q9⟩ := hp' 2 9 (by decide +kernel) rfl
      rw [q7 (by simp)] at d7
      obtain ⟨sv, lo9, hi9, rfl, hsv⟩ := q9 (fun z hz => by simp at hz; subst hz; cases hx : X 6 with | false => rfl | true => rw [hC.at_ 3 hx (by decide +kernel)] at hX; cases hX)
      simp at ho'; subst ho'
      simp [d7, d9]
      refine awCall_ctr ((playerOf_i (patchP.keeps h kk1) hsv hf ho (rendS_ok (ins := []) hok 0) h0).weaken (by omega)) ?_
      rintro _ M2 ⟨PB, oid, vid, cid, vs, rfl, hP, k2⟩
      exact hK _ _ (.inl k2) ⟨PB, oid, vid, cid, vs, rfl, hP.thin (by omega)⟩
    · simp at ho'; subst ho'
      simp [t1]
      exact hK _ _ (.inl (Keeps.refl _)) rfl
    · simp at ho'; subst ho'
      simp [t2]
      exact hK _ _ (.inl (Keeps.refl _)) rfl
    · obtain ⟨v10, d10, q10⟩ := hp' 3 10 (by decide +kernel) rfl
      obtain ⟨v11, d11, q11⟩ := hp' 4 11 (by decide +kernel) rfl
      obtain ⟨v12, d12, q12⟩ := hp' 5 12 (by decide +kernel) rfl
      obtain ⟨PB, oid, vid, cid, vs, rfl, hP⟩ := q10 (by simpa using hX)
      rw [q11 (by simp)] at d11
      rw [q12 (by simp)] at d12
      have hlow := hP.low
      simp at ho'; subst ho'
      simp [d10, d11, d12]
      refine awCall_ctr (block_i (N := N) hP (patchP.keeps h kk1) hf ho (hins.keeps kk1) hin hout hN (fun i h1 h2 hx => by rcases hx with e | e <;> omega) (fun i h1 h2 hx => by rcases hx with e | e <;> omega) ⟨by omega, by omega⟩ (by omega) (by omega)) ?_
      rintro r M3 ⟨uid, w, lo3, hi3, rfl, f1, f2, f3, f4⟩
      have kM0 : Keeps M0 M3 := by
        unfold Keeps
        exact fun i s hs => f4.2 i s (fun hx => by have := (List.getElem?_eq_some_iff.1 hs).1; rcases hx with e | e <;> omega) (hk.get hs)
      have kM := k0.trans kM0
      refine hK _ _ (.inr ⟨?_, fun j u hj hkj hju => ?_⟩) ⟨uid, w, lo3, hi3, rfl, f1, f2, f3, kM⟩
      · exact kM0
      · rcases j with _ | _ | _ | _ | _ | _ | _ | _ | j
        · exact hju
        · exact hju
        · simp at hkj
        · simp at hkj
        · exact hju
        · exact hju
        · rw [hX] at hj; cases hj
        · rw [hC.at_ 6 hj (by decide +kernel)] at hX; cases hX
        · trivial
    · obtain ⟨v, d, q⟩ := hp' 6 13 (by decide +kernel) rfl
      have q := q (by simp)
      simp at ho'; subst ho'
      simp [d]
      exact hK _ _ (.inl (Keeps.refl _)) q
    · simp at ho'
  · intro T M1 hk hp' hf'
    obtain ⟨v, d, q⟩ := hp' 7 6 (by simp) rfl
    have q := q (by simp)
    simp [d]
    exact q
set_option maxHeartbeats 1000000 in
theorem voice_x {M : Mem} {lo hi : Nat} {us : List Value} {x : Inst} {A : Option Addr} {n c N : Nat} {l : List Gate} (h : instP.rd lo hi M x us) (hb : instB x = true) (hg : Sl gateR M A n l) (hok : okG l = true) (hN : N ≤ 4000) (hM : hi ≤ M.length) :
    Det Tryz.prog M.length 54 [.agg us.toArray, .slice A n c, iv N] M (.slice (some ⟨M.length, 0, none⟩) (voL x l N).length (voL x l N).length) (M ++ [.live (rowI (voL x l N))]) := by
  refine Ctr.compact (rowI_plain _) ?_
  obtain ⟨f1, f2, f3, f4, f5⟩ := instB_pat hb
  have h' := h
  obtain ⟨ps, es, w, rfl, hp, he, hw⟩ := h'
  obtain ⟨A1, n1, c1, A2, n2, c2, A3, n3, c3, rfl⟩ := patch_isV hp
  obtain ⟨A4, n4, c4, rfl⟩ := env_isV he
  obtain ⟨A5, n5, c5, rfl⟩ := hw.isSl
  first | (refine ctr_fn Tryz.func54 rfl Tryz.ntmps54 Tryz.results54 rfl rfl (by simp) ?_) | (refine ctr_fnC Tryz.func54 rfl Tryz.ntmps54 Tryz.results54 rfl (by simp) ?_)
  simp
  obtain ⟨M0, hM0⟩ : ∃ M0 : Mem, M0 = M ++ [Slot.live ⟨[iv x.pat.inp, .slice A1 n1 c1, .slice A2 n2 c2, .slice A3 n3 c3, iv x.env.st, .slice A4 n4 c4, iv x.env.rel, .slice A5 n5 c5], true, true, 44, 8⟩] := ⟨_, rfl⟩
  have k0 : Keeps M M0 := by rw [hM0]; exact keeps_app _
  have l0 : M0.length = M.length + 1 := by rw [hM0]; simp
  have b4 : cellsAt M0 M.length 0 4 = some [iv x.pat.inp, .slice A1 n1 c1, .slice A2 n2 c2, .slice A3 n3 c3] := by rw [hM0]; simp
  have b8 : cellsAt M0 M.length 0 8 = some [iv x.pat.inp, .slice A1 n1 c1, .slice A2 n2 c2, .slice A3 n3 c3, iv x.env.st, .slice A4 n4 c4, iv x.env.rel, .slice A5 n5 c5] := by rw [hM0]; simp
  rw [← hM0]
  clear hM0
  refine awDraw_K (fun _ => []) (fun k v M' => match k with
    | 0 => v = .pointer (some ⟨M.length, 0, none⟩)
    | 1 => v = .agg #[iv x.pat.inp, .slice A1 n1 c1, .slice A2 n2 c2, .slice A3 n3 c3]
    | 2 => v = .agg #[iv x.pat.inp, .slice A1 n1 c1, .slice A2 n2 c2, .slice A3 n3 c3, iv x.env.st, .slice A4 n4 c4, iv x.env.rel, .slice A5 n5 c5]
    | 3 => v = .slice A n c
    | 4 => v = iv N
    | 5 => ∃ lo hi, SlV tabP lo hi M' v (ctlL x l N) ∧ hi ≤ M'.length
    | 6 => v = iv N
    | 7 => ∃ uid w lo3 hi3, v = .slice (some ⟨uid, 0, none⟩) 1 1 ∧ cellAt M' uid 0 = some w ∧ rowEsz M' uid = some 1 ∧ SlV intP lo3 hi3 M' w (voL x l N)
    | 8 => ∃ uid w lo3 hi3, v = .pointer (some ⟨uid, 0, none⟩) ∧ cellAt M' uid 0 = some w ∧ SlV intP lo3 hi3 M' w (voL x l N)
    | 9 => ∃ lo3 hi3, SlV intP lo3 hi3 M' v (voL x l N)
    | 10 => NewRow M v M' (voL x l N).length (rowI (voL x l N))
    | 11 => NewRow M v M' (voL x l N).length (rowI (voL x l N))
    | _ => True) ?_ (by kernel_rfl) (by decide +kernel) (by decide +kernel) ?_ ?_
  · intro k v M1 M2 h hk
    rcases k with _ | _ | _ | _ | _ | _ | _ | _ | _ | _ | _ | _ | k
    · exact h
    · exact h
    · exact h
    · exact h
    · exact h
    · obtain ⟨lo, hi, a, b⟩ := h
      exact ⟨lo, hi, a.keeps hk, Nat.le_trans b hk.len⟩
    · exact h
    · obtain ⟨uid, w, lo3, hi3, a, b, c, d⟩ := h
      exact ⟨uid, w, lo3, hi3, a, cellAt_keeps hk b, rowEsz_keeps hk c, d.keeps hk⟩
    · obtain ⟨uid, w, lo3, hi3, a, b, d⟩ := h
      exact ⟨uid, w, lo3, hi3, a, cellAt_keeps hk b, d.keeps hk⟩
    · obtain ⟨lo3, hi3, d⟩ := h
      exact ⟨lo3, hi3, d.keeps hk⟩
    · exact NewRow.keeps h hk
    · exact NewRow.keeps h hk
    · trivial
  · intro X k o T M1 K hC hX hk hp' hf ho' hK
    have kk1 := k0.trans hk
    have lk : M0.length ≤ M1.length := hk.len
    have f3' := hf 3 (by decide +kernel)
    have t1 := hf 1 (by decide +kernel)
    have t2 := hf 2 (by decide +kernel)
    simp at f3' t1 t2
    rcases k with _ | _ | _ | _ | _ | _ | _ | _ | _ | _ | _ | _ | k
    · simp at ho'; subst ho'
      simp [f3']
      exact hK _ _ (.inl (Keeps.refl _)) rfl
    · obtain ⟨v, d, q⟩ := hp' 0 7 (by decide +kernel) rfl
      rw [q (by simp)] at d
      simp at ho'; subst ho'
      simp [d, cellsAt_keeps hk b4]
      exact hK _ _ (.inl (Keeps.refl _)) rfl
    · simp at ho'; subst ho'
      simp [f3', cellsAt_keeps hk b8]
      exact hK _ _ (.inl (Keeps.refl _)) rfl
    · simp at ho'; subst ho'
      simp [t1]
      exact hK _ _ (.inl (Keeps.refl _)) rfl
    · simp at ho'; subst ho'
      simp [t2]
      exact hK _ _ (.inl (Keeps.refl _)) rfl
    · obtain ⟨v9, d9, q9⟩ := hp' 2 9 (by decide +kernel) rfl
      obtain ⟨v10, d10, q10⟩ := hp' 3 10 (by decide +kernel) rfl
      obtain ⟨v11, d11, q11⟩ := hp' 4 11 (by decide +kernel) rfl
      rw [q9 (by simp)] at d9
      rw [q10 (by simp)] at d10
      rw [q11 (by simp)] at d11
      simp at ho'; subst ho'
      simp [d9, d10, d11]
      refine awCall_ctr (controls_i (instP.keeps h kk1) hb (hg.keeps kk1) hok hN (by omega)) ?_
      rintro _ M2 ⟨oid, i0, i1, i2, v0, v1, v2, rfl, hCt, hS⟩
      refine hK _ _ (.inl (slt hS)) ⟨M1.length, M2.length, ?_, Nat.le_refl _⟩
      refine CtO.slv (.inr ⟨_, _, _, _, _, _, _, _, _, _, rfl, rfl, hCt⟩) fun q hq => ?_
      simp [ctlL] at hq
      rcases hq with rfl | rfl | rfl <;> (rw [mkC_len]; omega)
    · simp at ho'; subst ho'
      simp [t2]
      exact hK _ _ (.inl (Keeps.refl _)) rfl
    · obtain ⟨v8, d8, q8⟩ := hp' 1 8 (by decide +kernel) rfl
      obtain ⟨v12, d12, q12⟩ := hp' 5 12 (by decide +kernel) rfl
      obtain ⟨v13, d13, q13⟩ := hp' 6 13 (by decide +kernel) rfl
      rw [q8 (by simp)] at d8
      rw [q13 (by simp)] at d13
      obtain ⟨lo9, hi9, hct, hhi⟩ := q12 (by simp)
      simp at ho'; subst ho'
      simp [d8, d12, d13]
      refine awCall_ctr ((render_i (N := N) (patchP.keeps hp kk1) f1 f2 f5 hct (by rw [f3]; rfl) f4 hN ⟨by omega, hhi⟩).weaken (by omega)) ?_
      rintro _ M2 ⟨uid, w, lo3, hi3, rfl, g1, g2, g3, g4⟩
      exact hK _ _ (.inl g4) ⟨uid, w, lo3, hi3, rfl, g1, g2, g3⟩
    · obtain ⟨v, d, q⟩ := hp' 7 14 (by decide +kernel) rfl
      obtain ⟨uid, w, lo3, hi3, rfl, g1, g2, g3⟩ := q (by simp)
      simp at ho'; subst ho'
      simp [d, g2]
      exact hK _ _ (.inl (Keeps.refl _)) ⟨uid, w, lo3, hi3, rfl, g1, g3⟩
    · obtain ⟨v, d, q⟩ := hp' 8 15 (by decide +kernel) rfl
      obtain ⟨uid, w, lo3, hi3, rfl, g1, g3⟩ := q (by simp)
      simp at ho'; subst ho'
      simp [d, g1]
      exact hK _ _ (.inl (Keeps.refl _)) ⟨lo3, hi3, g3⟩
    · obtain ⟨v, d, q⟩ := hp' 9 16 (by decide +kernel) rfl
      obtain ⟨lo3, hi3, g3⟩ := q (by simp)
      simp at ho'; subst ho'
      simp [d]
      refine awCall_det' (clone_x g3 (by rw [voL_len]; omega)) (by omega) ?_
      exact hK _ _ (.inl (keeps_app _)) (newRow_in (t := false) rfl (by omega) (by simp [rowI]))
    · obtain ⟨v, d, q⟩ := hp' 10 17 (by decide +kernel) rfl
      have q := q (by simp)
      simp at ho'; subst ho'
      simp [d]
      exact hK _ _ (.inl (Keeps.refl _)) q
    · simp at ho'
  · intro T M1 hk hp' hf
    obtain ⟨v, d, q⟩ := hp' 11 6 (by simp) rfl
    have q := q (by simp)
    simp [d]
    exact ⟨q, k0.trans hk⟩
def voV (x : Inst) (l : List Gate) (N : Int) : List Int × Int := if codeV x l N true = 0 then (voL x l N.toNat, 0) else ([], codeV x l N true)
def VoO (B : Nat) (M : Mem) (u : Value) (l : List Int) : Prop := Acc intR 2 B M u l
def VoS (out : List Int × Int) (M : Mem) (r : Value) (M' : Mem) : Prop := ∃ u, r = .tuple #[u, iv out.2] ∧ VoO M.length M' u out.1 ∧ Same M.length M M'
theorem voV_len {x : Inst} {l : List Gate} {N : Int} : (voV x l N).1.length ≤ 4000 := by
  unfold voV
  split
  · rename_i hc
    have h3 := inB_iff.1 (codeV_ok hc).2.2.1
    show (voL x l N.toNat).length ≤ 4000
    rw [voL_len]; omega
  · exact Nat.zero_le _
theorem RenderVoice_i {M : Mem} {b lo hi : Nat} {us : List Value} {x : Inst} {A : Option Addr} {n c : Nat} {l : List Gate} (N : Int) (h : instP.rd lo hi M x us) (hM : hi ≤ M.length) (hg : Sl gateR M A n l) (hn : n ≤ 1099511627776) (hb : b ≤ M.length) :
    Ctr Tryz.prog b 21 [.agg us.toArray, .slice A n c, iv N] M fun r M' => VoS (voV x l N) M r M' := by
  have hl := instP.len h
  have ht : us.take 8 = us := List.take_of_length_le (by omega)
  first | (refine ctr_fn Tryz.func21 rfl Tryz.ntmps21 Tryz.results21 rfl rfl (by simp) ?_) | (refine ctr_fnC Tryz.func21 rfl Tryz.ntmps21 Tryz.results21 rfl (by simp) ?_)
  simp [hl, ht]
  refine awCall_det' (gatesCode_i N true (instP.app h _) (hg.keeps (keeps_app _)) hn) (by simp <;> omega) ?_
  by_cases hc : codeV x l N true = 0
  · obtain ⟨e1, e2, e3, e4, e5⟩ := codeV_ok hc
    have k3 := inB_iff.1 e3
    obtain ⟨K, rfl⟩ := Int.eq_ofNat_of_zero_le k3.1
    simp [hc, hl, ht]
    refine awCall_det' (voice_x (instP.app h _) e1 (hg.keeps (keeps_app _)) e2 (by omega) (by simp; omega)) (by simp <;> omega) ?_
    have hv : voV x l K = (voL x l K, 0) := by unfold voV; rw [if_pos hc]; rfl
    rw [hv]
    try simp
    have hA : VoO M.length (M ++ [Slot.live ⟨us, true, true, 44, 8⟩] ++ [.live (rowI (voL x l K))]) (.slice (some ⟨(M ++ [Slot.live ⟨us, true, true, 44, 8⟩]).length, 0, none⟩) (voL x l K).length (voL x l K).length) (voL x l K) := rowI_acc.low (by simp)
    simp at hA
    exact ⟨_, rfl, hA, Same.appS _ _⟩
  · simp [hc]
    have hv : voV x l N = ([], codeV x l N true) := by unfold voV; rw [if_neg hc]
    rw [hv]
    exact ⟨_, rfl, .nil, Same.appS _ _⟩
end Go.Proofs.YtimijeeihicohaaGreat

namespace Go.Proofs.YtimijeeihicohaaGreat
open Go.RowKit
set_option linter.unusedVariables false
set_option linter.unusedSimpArgs false
set_option maxRecDepth 100000
attribute [local simp] List.getElem?_cons_zero
attribute [local irreducible] awCond awCall awLoop awDraw ow retQ retC resQ Keeps
theorem smp_mod {x y : Int} (h : x % 4294967296 = y % 4294967296) : smp x = smp y := by unfold smp; omega
theorem smp_m (x : Int) : smp x % 4294967296 = x % 4294967296 := by unfold smp; omega
theorem smp_add2 (a b : Int) : smp (smp a + smp b) = smp (a + b) := smp_mod (by rw [Int.add_emod, smp_m, smp_m, ← Int.add_emod])
theorem smp_sub2 (a b : Int) : smp (smp a - smp b) = smp (a - b) := smp_mod (by rw [Int.sub_emod, smp_m, smp_m, ← Int.sub_emod])
theorem smp_mul2 (a b : Int) : smp (smp a * smp b) = smp (a * b) := smp_mod (by rw [Int.mul_emod, smp_m, smp_m, ← Int.mul_emod])
theorem smp_addr (a b : Int) : smp (a + smp b) = smp (a + b) := smp_mod (by rw [Int.add_emod, smp_m, ← Int.add_emod])
theorem smp_addl (a b : Int) : smp (smp a + b) = smp (a + b) := smp_mod (by rw [Int.add_emod, smp_m, ← Int.add_emod])
theorem l01Sub_s {M : Mem} (a b : Int) : Det Tryz.prog M.length 231 [iv a, iv b] M (iv (smp (smp a - smp b))) M := by
  have h1 := smp_bd a
  have h2 := smp_bd b
  first | (refine det_fn Tryz.func231 rfl Tryz.ntmps231 Tryz.results231 rfl rfl rfl (by simp) ?_) | (refine det_fnC Tryz.func231 rfl Tryz.ntmps231 Tryz.results231 rfl rfl (by simp) ?_)
  simp
  refine awCall_det' (l01Wrap_t _) (by simp) ?_
  try simp
  refine awCall_det' (l01Wrap_t _) (by simp) ?_
  simp (disch := omega) [wrap_in]
  refine awCall_det' (l01Wrap_t _) (by simp) ?_
  simp [Keeps.refl]
theorem l06Noise_s {M : Mem} (x : Int) : Det Tryz.prog M.length 236 [iv x] M (iv (noiseV x)) M := by
  have hx : 0 ≤ x % 4294967296 ∧ x % 4294967296 < 4294967296 := by omega
  have e1 : (2 : Int) ^ (1 : Int).toNat = 2 := by decide
  first | (refine det_fn Tryz.func236 rfl Tryz.ntmps236 Tryz.results236 rfl rfl rfl (by simp) ?_) | (refine det_fnC Tryz.func236 rfl Tryz.ntmps236 Tryz.results236 rfl rfl (by simp) ?_)
  simp [andS, and1S]
  by_cases ho : x % 2 = 1
  · simp [ho]
    rw [binV_shift rfl, shrS (by omega) (by omega), ow_some, e1]
    simp [xorS (a := x % 4294967296 / 2) (by omega) (by omega)]
    refine awCall_det' (l01Wrap_t _) (by simp) ?_
    simp [noiseV, ho, Keeps.refl]
  · simp [ho]
    rw [binV_shift rfl, shrS (by omega) (by omega), ow_some, e1]
    simp
    refine awCall_det' (l01Wrap_t _) (by simp) ?_
    simp [noiseV, ho, Keeps.refl]
theorem l06Look_s {M : Mem} {lo hi : Nat} {u : Value} {t : List Int} (x : Int) (h : SlV intP lo hi M u t) (h1 : 2 ≤ t.length) (h2 : t.length ≤ 16) : Det Tryz.prog M.length 233 [u, iv x] M (iv (lookV t x)) M := by
  obtain ⟨A, n, c, rfl, hn, -, hS, -⟩ := sl_take h
  obtain ⟨id, off, rfl, he, hc⟩ := sl_cells hS (by omega)
  obtain ⟨l1, l2, l3, l4⟩ := look_bd h1 h2 x
  obtain ⟨q, hq⟩ := Int.eq_ofNat_of_zero_le l1
  have hcq := hc q (by omega)
  have e32 : (2 : Int) ^ (32 : Int).toNat = 4294967296 := by decide
  rw [hn] at l2 l3 l4 hq
  have hqn : q < n := by omega
  first | (refine det_fn Tryz.func233 rfl Tryz.ntmps233 Tryz.results233 rfl rfl rfl (by simp) ?_) | (refine det_fnC Tryz.func233 rfl Tryz.ntmps233 Tryz.results233 rfl rfl (by simp) ?_)
  simp (disch := omega) [andS, wrap_in]
  rw [binV_shift rfl, shrS (by omega) (by omega), ow_some, e32, hq]
  simp (disch := omega) [hcq, he, hqn]
  simp [lookV, hn, hq, Keeps.refl]
set_option maxHeartbeats 1000000 in
theorem l06Out_s {M : Mem} {lo hi lo1 hi1 lo2 hi2 lo3 hi3 id0 off0 : Nat} {us : List Value} {x : Node} {tv vi vs : Value} {i s : List Int} {p : Patch} (h : nodeP.rd lo hi M x us) (hc0 : Cl M id0 off0 us) (ht : SlV tabP lo1 hi1 M tv p.tabs) (hi : SlV intP lo2 hi2 M vi i) (hs : SlV intP lo3 hi3 M vs s) (hx : NodeOk p x) (htb : tablesB p.tabs = true)
    (hil : i.length = if x.k = 1 then 1 else x.from_.length) (hsl : s.length = (startV x).length) :
    Det Tryz.prog M.length 218 [.pointer (some ⟨id0, off0, none⟩), tv, vi, vs] M (iv (outV x p.tabs i s)) M := by
  obtain ⟨A, n, c, rfl, hu⟩ := node_box h
  have ck := hc0 0 _ rfl
  have ca := hc0 1 _ rfl
  simp only [Nat.add_zero] at ck
  first | (refine det_fn Tryz.func218 rfl Tryz.ntmps218 Tryz.results218 rfl rfl rfl (by simp) ?_) | (refine det_fnC Tryz.func218 rfl Tryz.ntmps218 Tryz.results218 rfl rfl (by simp) ?_)
  simp [ck]
  generalize hkk : x.k = kk at *
  by_cases k1 : kk = 1
  · subst k1
    obtain ⟨idi, offi, di, rfl, ei, i0, i1, i2⟩ := slv_at hi (n := 1) (by rw [hil]; first | rw [if_pos (by omega)] | (rw [if_neg (by omega)]; exact hx.one (by omega))) (by omega)
    try simp
    simp [i0, ei]
    simp [outV, hkk, Keeps.refl, smp_add2, smp_sub2, smp_mul2, smp_addr, smp_addl]
  simp [k1]
  by_cases k2 : kk = 2
  · subst k2
    try simp
    simp [ca]
    simp [outV, hkk, Keeps.refl, smp_add2, smp_sub2, smp_mul2, smp_addr, smp_addl]
  simp [k2]
  by_cases k3 : kk = 3
  · subst k3
    obtain ⟨idi, offi, di, rfl, ei, i0, i1, i2⟩ := slv_at hi (n := 2) (by rw [hil]; rw [if_neg (by omega)]; exact hx.two (by omega)) (by omega)
    have i1' := i1 (by omega)
    try simp
    refine awDraw_E 6 [[],[0],[1,0],[],[3],[4,3],[2,1,0,5,4,3],[6,2,1,0,5,4,3]] (by kernel_rfl) (by kernel_rfl) ?_
    simp [i0, i1', ei]
    refine awCall_det' (l01Add_s _ _) (by first | omega | (simp <;> omega) | simp) ?_
    simp [outV, hkk, Keeps.refl, smp_add2, smp_sub2, smp_mul2, smp_addr, smp_addl]
  simp [k3]
  by_cases k4 : kk = 4
  · subst k4
    obtain ⟨idi, offi, di, rfl, ei, i0, i1, i2⟩ := slv_at hi (n := 2) (by rw [hil]; rw [if_neg (by omega)]; exact hx.two (by omega)) (by omega)
    have i1' := i1 (by omega)
    try simp
    refine awDraw_E 6 [[],[0],[1,0],[],[3],[4,3],[2,1,0,5,4,3],[6,2,1,0,5,4,3]] (by kernel_rfl) (by kernel_rfl) ?_
    simp [i0, i1', ei]
    refine awCall_det' (l01Sub_s _ _) (by first | omega | (simp <;> omega) | simp) ?_
    simp [outV, hkk, Keeps.refl, smp_add2, smp_sub2, smp_mul2, smp_addr, smp_addl]
  simp [k4]
  by_cases k5 : kk = 5
  · subst k5
    obtain ⟨idi, offi, di, rfl, ei, i0, i1, i2⟩ := slv_at hi (n := 1) (by rw [hil]; first | rw [if_pos (by omega)] | (rw [if_neg (by omega)]; exact hx.one (by omega))) (by omega)
    try simp
    refine awDraw_E 7 [[],[0],[1,0],[2,1,0],[],[4],[5,4],[3,2,1,0,6,5,4],[7,3,2,1,0,6,5,4]] (by kernel_rfl) (by kernel_rfl) ?_
    simp [i0, ei, ca]
    refine awCall_det' (l01Mul_s _ _) (by first | omega | (simp <;> omega) | simp) ?_
    simp [outV, hkk, Keeps.refl, smp_add2, smp_sub2, smp_mul2, smp_addr, smp_addl]
  simp [k5]
  by_cases k6 : kk = 6
  · subst k6
    have hs1 : 0 < s.length := by
      rw [hsl]; unfold startV; rw [hkk]
      simp
      have := hx.del (by omega); omega
    obtain ⟨ids, offs, ds, rfl, es, s0, -, -⟩ := slv_at hs (n := s.length) rfl hs1
    try simp
    simp [s0, es, hs1]
    simp [outV, hkk, Keeps.refl, smp_add2, smp_sub2, smp_mul2, smp_addr, smp_addl]
  simp [k6]
  by_cases k12 : kk = 12
  · subst k12
    have hs1 : 0 < s.length := by
      rw [hsl]; unfold startV; rw [hkk]
      simp
      skip
    obtain ⟨ids, offs, ds, rfl, es, s0, -, -⟩ := slv_at hs (n := s.length) rfl hs1
    try simp
    simp [s0, es, hs1]
    simp [outV, hkk, Keeps.refl, smp_add2, smp_sub2, smp_mul2, smp_addr, smp_addl]
  simp [k12]
  by_cases k14 : kk = 14
  · subst k14
    have hs1 : 0 < s.length := by
      rw [hsl]; unfold startV; rw [hkk]
      simp
      skip
    obtain ⟨ids, offs, ds, rfl, es, s0, -, -⟩ := slv_at hs (n := s.length) rfl hs1
    try simp
    simp [s0, es, hs1]
    simp [outV, hkk, Keeps.refl, smp_add2, smp_sub2, smp_mul2, smp_addr, smp_addl]
  simp [k14]
  by_cases k7 : kk = 7
  · subst k7
    obtain ⟨idi, offi, di, rfl, ei, i0, i1, i2⟩ := slv_at hi (n := 1) (by rw [hil]; first | rw [if_pos (by omega)] | (rw [if_neg (by omega)]; exact hx.one (by omega))) (by omega)
    have hs1 : 0 < s.length := by
      rw [hsl]; unfold startV; rw [hkk]
      simp
      skip
    obtain ⟨ids, offs, ds, rfl, es, s0, -, -⟩ := slv_at hs (n := s.length) rfl hs1
    try simp
    refine awDraw_E 6 [[],[0],[1,0],[],[3],[4,3],[2,1,0,5,4,3],[6,2,1,0,5,4,3]] (by kernel_rfl) (by kernel_rfl) ?_
    simp [i0, ei, s0, es, hs1]
    refine awCall_det' (l01Add_s _ _) (by first | omega | (simp <;> omega) | simp) ?_
    simp [outV, hkk, Keeps.refl, smp_add2, smp_sub2, smp_mul2, smp_addr, smp_addl]
  simp [k7]
  by_cases k8 : kk = 8
  · subst k8
    obtain ⟨idi, offi, di, rfl, ei, i0, i1, i2⟩ := slv_at hi (n := 1) (by rw [hil]; first | rw [if_pos (by omega)] | (rw [if_neg (by omega)]; exact hx.one (by omega))) (by omega)
    have hs1 : 0 < s.length := by
      rw [hsl]; unfold startV; rw [hkk]
      simp
      skip
    obtain ⟨ids, offs, ds, rfl, es, s0, -, -⟩ := slv_at hs (n := s.length) rfl hs1
    try simp
    refine awDraw_E 6 [[],[0],[1,0],[],[3],[4,3],[2,1,0,5,4,3],[6,2,1,0,5,4,3]] (by kernel_rfl) (by kernel_rfl) ?_
    simp [i0, ei, s0, es, hs1]
    refine awCall_det' (l01Sub_s _ _) (by first | omega | (simp <;> omega) | simp) ?_
    simp [outV, hkk, Keeps.refl, smp_add2, smp_sub2, smp_mul2, smp_addr, smp_addl]
  simp [k8]
  by_cases k9 : kk = 9
  · subst k9
    obtain ⟨idi, offi, di, rfl, ei, i0, i1, i2⟩ := slv_at hi (n := 2) (by rw [hil]; rw [if_neg (by omega)]; exact hx.two (by omega)) (by omega)
    have i1' := i1 (by omega)
    try simp
    refine awDraw_E 6 [[],[0],[1,0],[],[3],[4,3],[2,1,0,5,4,3],[6,2,1,0,5,4,3]] (by kernel_rfl) (by kernel_rfl) ?_
    simp [i0, i1', ei]
    refine awCall_det' (l01Mul_s _ _) (by first | omega | (simp <;> omega) | simp) ?_
    simp [outV, hkk, Keeps.refl, smp_add2, smp_sub2, smp_mul2, smp_addr, smp_addl]
  simp [k9]
  by_cases k10 : kk = 10
  · subst k10
    obtain ⟨idi, offi, di, rfl, ei, i0, i1, i2⟩ := slv_at hi (n := 1) (by rw [hil]; first | rw [if_pos (by omega)] | (rw [if_neg (by omega)]; exact hx.one (by omega))) (by omega)
    try simp
    refine awDraw_E 8 [[],[0],[1,0],[],[3],[4,3],[5,4,3],[6,5,4,3],[2,1,0,7,6,5,4,3],[8,2,1,0,7,6,5,4,3]] (by kernel_rfl) (by kernel_rfl) ?_
    obtain ⟨a1, a2⟩ := hx.shift (by omega)
    have e1 : IntKind.u64.wrap x.a = x.a := IntWalk.u64_in _ ⟨a1, by omega⟩
    simp [i0, ei, ca, e1]
    rw [binV_shift rfl, shrS a1 (by omega), ow_some]
    simp [outV, hkk, Keeps.refl, smp_add2, smp_sub2, smp_mul2, smp_addr, smp_addl]
  simp [k10]
  by_cases k11 : kk = 11
  · subst k11
    obtain ⟨idi, offi, di, rfl, ei, i0, i1, i2⟩ := slv_at hi (n := 1) (by rw [hil]; first | rw [if_pos (by omega)] | (rw [if_neg (by omega)]; exact hx.one (by omega))) (by omega)
    try simp
    refine awDraw_E 13 [[],[0],[1,0],[2,1,0],[3,2,1,0],[],[5],[6,5],[],[8],[9,8],[10,9,8],[7,6,5,11,10,9,8],[4,3,2,1,0,12,7,6,5,11,10,9,8],[13,4,3,2,1,0,12,7,6,5,11,10,9,8]] (by kernel_rfl) (by kernel_rfl) ?_
    obtain ⟨a1, a2⟩ := hx.clip (by omega)
    have e1 : IntKind.i64.wrap (-x.a) = -x.a := wrap_in (by omega) (by omega)
    simp [i0, ei, ca, e1]
    refine awCall_det' (d := true) (l00Min_t _ _) (by first | omega | (simp <;> omega) | simp) ?_
    simp
    refine awCall_det' (l00Max_v _ _) (by first | omega | (simp <;> omega) | simp) ?_
    simp [outV, hkk, Keeps.refl]
    omega
  simp [k11]
  by_cases k13 : kk = 13
  · subst k13
    obtain ⟨idi, offi, di, rfl, ei, i0, i1, i2⟩ := slv_at hi (n := 1) (by rw [hil]; first | rw [if_pos (by omega)] | (rw [if_neg (by omega)]; exact hx.one (by omega))) (by omega)
    try simp
    refine awDraw_E 10 [[],[],[1],[2,1],[3,2,1],[0,4,3,2,1],[5,0,4,3,2,1],[],[7],[8,7],[6,5,0,4,3,2,1,9,8,7],[10,6,5,0,4,3,2,1,9,8,7]] (by kernel_rfl) (by kernel_rfl) ?_
    obtain ⟨a1, a2⟩ := hx.tab (by omega)
    obtain ⟨b1, b2⟩ := tab_at htb (k := x.a.toNat) (by omega)
    obtain ⟨B, m, e, rfl, g1, g2, g3⟩ := ht
    have hml := g3.1
    obtain ⟨idt, offt, ust, rfl, het, ⟨ut, rfl, hut⟩, hct⟩ := g3.at_ (i := x.a.toNat) (by omega)
    have ct := (cl_cons.1 hct).1
    simp only [Nat.mul_one] at ct
    have hneg : ¬ x.a < 0 := by omega
    have hlm : x.a < m := by omega
    simp (disch := omega) [het, ct, hneg, hlm, i0, ei, ca, a1]
    refine awCall_det' (l06Look_s _ hut b1 b2) (by first | omega | (simp <;> omega) | simp) ?_
    simp [outV, hkk, Keeps.refl, smp_add2, smp_sub2, smp_mul2, smp_addr, smp_addl]
  simp [k13]
  by_cases k15 : kk = 15
  · subst k15
    obtain ⟨idi, offi, di, rfl, ei, i0, i1, i2⟩ := slv_at hi (n := 3) (by rw [hil]; rw [if_neg (by omega)]; exact hx.three (by omega)) (by omega)
    have i1' := i1 (by omega)
    have i2' := i2 (by omega)
    try simp
    simp [i0, ei]
    by_cases h0 : 0 ≤ el i 0
    · simp [h0, i1', ei, outV, hkk, Keeps.refl]
    · simp [h0, i2', ei, outV, hkk, Keeps.refl]
  simp [k15]
  by_cases k16 : kk = 16
  · subst k16
    obtain ⟨idi, offi, di, rfl, ei, i0, i1, i2⟩ := slv_at hi (n := 2) (by rw [hil]; rw [if_neg (by omega)]; exact hx.two (by omega)) (by omega)
    have i1' := i1 (by omega)
    have hs1 : 0 < s.length := by
      rw [hsl]; unfold startV; rw [hkk]
      simp
      skip
    obtain ⟨ids, offs, ds, rfl, es, s0, -, -⟩ := slv_at hs (n := s.length) rfl hs1
    try simp
    simp [i0, i1', ei]
    by_cases h0 : 0 < el i 1
    · simp [h0, i0, ei, outV, hkk, Keeps.refl]
    · simp [h0, s0, es, hs1, outV, hkk, Keeps.refl]
  simp [k16]
  obtain rfl : kk = 17 := by have := hx.kind; omega
  obtain ⟨idi, offi, di, rfl, ei, i0, i1, i2⟩ := slv_at hi (n := 1) (by rw [hil]; first | rw [if_pos (by omega)] | (rw [if_neg (by omega)]; exact hx.one (by omega))) (by omega)
  have hs1 : 0 < s.length := by
    rw [hsl]; unfold startV; rw [hkk]
    simp
    have := hx.comb (by omega); omega
  obtain ⟨ids, offs, ds, rfl, es, s0, -, -⟩ := slv_at hs (n := s.length) rfl hs1
  refine awDraw_E 11 [[],[0],[1,0],[],[3],[4,3],[5,4,3],[],[7],[8,7],[6,5,4,3,9,8,7],[2,1,0,10,6,5,4,3,9,8,7],[11,2,1,0,10,6,5,4,3,9,8,7]] (by kernel_rfl) (by kernel_rfl) ?_
  simp [i0, ei, ca, s0, es, hs1]
  refine awCall_det' (l01Mul_s _ _) (by first | omega | (simp <;> omega) | simp) ?_
  simp
  refine awCall_det' (l01Add_s _ _) (by first | omega | (simp <;> omega) | simp) ?_
  simp [outV, hkk, Keeps.refl, smp_add2, smp_sub2, smp_mul2, smp_addr, smp_addl]
end Go.Proofs.YtimijeeihicohaaGreat

namespace Go.Proofs.YtimijeeihicohaaGreat
open Go.RowKit
set_option linter.unusedVariables false
set_option linter.unusedSimpArgs false
set_option maxRecDepth 100000
attribute [local simp] List.getElem?_cons_zero
attribute [local irreducible] awCond awCall awLoop awDraw ow retQ retC resQ Keeps
theorem l00Own_x {M : Mem} {lo hi : Nat} {u : Value} {l : List Int} (h : SlV intP lo hi M u l) (hn : l.length ≤ 1048576) : Det Tryz.prog M.length 235 [u] M (.slice (some ⟨M.length, 0, none⟩) l.length l.length) (M ++ [.live (rowI l)]) := by
  refine Ctr.compact (rowI_plain l) ?_
  obtain ⟨A, n, c, rfl, hl, -, hS, hc⟩ := sl_take h
  first | (refine ctr_fn Tryz.func235 rfl Tryz.ntmps235 Tryz.results235 rfl rfl (by simp) ?_) | (refine ctr_fnC Tryz.func235 rfl Tryz.ntmps235 Tryz.results235 rfl (by simp) ?_)
  simp
  have hA0 : Acc intR 2 M.length (M ++ [Slot.live ⟨[], true, true, 2, 1⟩]) (.slice (some ⟨M.length, 0, none⟩) 0 0) [] := ⟨_, 0, 0, rfl, rfl, .inr ⟨M.length, true, rfl, Nat.le_refl _, by simp [cellsL]⟩⟩
  obtain ⟨v', M', a1, a2, a3⟩ := clone_det (P := Tryz.prog) (t := 24) (e := 2) (by_ := 8) (b := M.length) (S := ⟨0, [], M ++ [Slot.live ⟨[], true, true, 2, 1⟩]⟩) (hS.keeps (keeps_app _)) hc hA0 (Nat.le_refl _) (by simp) (by simp) ⟨_, Tryz.underlying24⟩ (by kernel_rfl) (by omega) (by unfold maxLen; omega)
  refine appendK_M (S := ⟨0, [], M ++ [Slot.live ⟨[], true, true, 2, 1⟩]⟩) (by rfl) (append_ctr (append_nn (a3 (fun v M => v = v' ∧ M = M') ⟨rfl, rfl⟩)) ?_)
  rintro v M2 ⟨⟨rfl, rfl⟩, hnn⟩
  try simp
  exact ⟨a1.newRow hnn, slt (Same.trans' (Same.appS _ _) a2)⟩
theorem l07Map_x {M : Mem} {lo hi lo' hi' : Nat} {u v : Value} {l vals : List Int} (h : SlV intP lo hi M u l) (h' : SlV intP lo' hi' M v vals) (hl : l.length ≤ 1048576) (hx : ∀ k, k < l.length → ∃ f : Nat, el l k = f ∧ f < vals.length) :
    Det Tryz.prog M.length 234 [u, v] M (.slice (some ⟨M.length, 0, none⟩) l.length l.length) (M ++ [.live (rowI (l.map fun f => el vals f.toNat))]) := by
  have e : l.length = (l.map fun f => el vals f.toNat).length := by simp
  rw [e]
  refine Ctr.compact (rowI_plain _) ?_
  obtain ⟨A, n, c, rfl, hn, hn2, hS, -⟩ := sl_take h
  obtain ⟨B, m, d, rfl, hm, hm2, hT, -⟩ := sl_take h'
  first | (refine ctr_fn Tryz.func234 rfl Tryz.ntmps234 Tryz.results234 rfl rfl (by simp) ?_) | (refine ctr_fnC Tryz.func234 rfl Tryz.ntmps234 Tryz.results234 rfl (by simp) ?_)
  simp
  refine awLoop_T (fun q T M' => ∃ (k : Nat) (r : Value), k + q = n ∧ Same M.length M M' ∧ M.length < M'.length ∧ Acc intR 2 M.length M' r ((l.take k).map fun f => el vals f.toNat) ∧ (∃ a n c, r = .slice (some a) n c) ∧ look T 5 = some r ∧ look T 6 = some (iv k) ∧ look T 0 = some (.slice A n c) ∧ look T 1 = some (.slice B m d)) n
    ⟨0, _, by omega, .appS _ _, by simp, ⟨_, 0, 0, rfl, rfl, .inr ⟨M.length, true, rfl, Nat.le_refl _, by simp [cellsL]⟩⟩, ⟨_, _, _, rfl⟩, by simp, by simp, by simp, by simp⟩ ?_
  rintro q T M1 ⟨k, r, hq, i1, i2, i3, ⟨ra, rn, rc, rfl⟩, t5, t6, t0, t1⟩
  by_cases hlt : k < n
  · obtain ⟨id, off, rfl, he, hc⟩ := sl_cells hS (by omega)
    obtain ⟨p, hp, hpl⟩ := hx k (by omega)
    obtain ⟨id', off', rfl, he', hc'⟩ := sl_cells hT (by omega)
    have kk := slt i1
    have c1 := cellAt_keeps kk (hc k hlt)
    have c2 := cellAt_keeps kk (hc' p (by omega))
    rw [hp] at c1
    have e1 := rowEsz_keeps kk he
    have e2 := rowEsz_keeps kk he'
    have hpm : p < m := by omega
    simp (disch := omega) [t5, t6, t0, t1, hlt, c1, c2, e1, e2, wrap_in, hpm, fill1I]
    obtain ⟨v', M', a1, a2, a3⟩ := append_det (P := Tryz.prog) (t := 24) (tx := 24) (e := 2) (by_ := 8) (b := M.length) (S := ⟨0, [], M1 ++ [Slot.live ⟨[iv (el vals p)], true, true, 2, 1⟩]⟩) (x := .slice (some ⟨M1.length, 0, none⟩) 1 1) (a := el vals p) (i3.keeps (keeps_app _)) (Nat.le_refl _) (by simp; omega) (by simp) (by kernel_rfl) (by simp [srcOf]; rfl) (by simp; omega) (by simp; unfold maxLen; omega)
    refine appendK_M (S := ⟨0, [], M1 ++ [Slot.live ⟨[iv (el vals p)], true, true, 2, 1⟩]⟩) (by rfl) (append_ctr (append_nn (a3 (fun v M => v = v' ∧ M = M') ⟨rfl, rfl⟩)) ?_)
    rintro v M2 ⟨⟨rfl, rfl⟩, hnn⟩
    have hs := Same.trans' (Same.trans' i1 (Same.appB _ _)) a2
    have hml : M.length < M2.length := by have := a2.1; simp at this; omega
    try simp (disch := omega) [t5, t6, t0, t1, wrap_in]
    refine lpI (q - 1) (by omega) ⟨k + 1, _, by omega, hs, hml, ?_, hnn, by simp, by simp, by simp [t0], by simp [t1]⟩
    rw [take_el (by omega), List.map_append]
    simpa [hp] using a1
  · obtain rfl : k = n := by omega
    rw [List.take_of_length_le (by omega)] at i3
    simp [t5, t6, t0, t1]
    have := i3.newRow ⟨_, _, _, rfl⟩
    simp at this
    exact ⟨this, slt i1⟩
theorem l03Zeros_x {M : Mem} (n : Nat) (hn : n ≤ 4000) : Det Tryz.prog M.length 84 [iv n] M (.slice (some ⟨M.length, 0, none⟩) n n) (M ++ [.live (rowI (List.replicate n 0))]) := by
  refine Ctr.compact (rowI_plain _) ((l03Zeros_r n hn (Nat.le_refl _)).mono ?_)
  rintro v M' ⟨id, hid, ⟨h1, t, c, rfl, h3⟩, hS⟩
  rw [List.length_replicate]
  exact ⟨newRow_in (by simp) h1 h3, slt hS⟩

theorem l06Start_x {M : Mem} {lo hi id0 off0 : Nat} {us : List Value} {x : Node} {p : Patch} (h : nodeP.rd lo hi M x us) (hc0 : Cl M id0 off0 us) (hx : NodeOk p x) :
    Det Tryz.prog M.length 189 [.pointer (some ⟨id0, off0, none⟩)] M (.slice (some ⟨M.length, 0, none⟩) (startV x).length (startV x).length) (M ++ [.live (rowI (startV x))]) := by
  refine Ctr.compact (rowI_plain _) ?_
  obtain ⟨A, n, c, rfl, hu⟩ := node_box h
  have ck := hc0 0 _ rfl
  have ca := hc0 1 _ rfl
  have cb := hc0 2 _ rfl
  simp only [Nat.add_zero] at ck
  first | (refine ctr_fn Tryz.func189 rfl Tryz.ntmps189 Tryz.results189 rfl rfl (by simp) ?_) | (refine ctr_fnC Tryz.func189 rfl Tryz.ntmps189 Tryz.results189 rfl (by simp) ?_)
  simp [ck]
  generalize hkk : x.k = kk at *
  generalize hl : startV x = l
  have hl2 := hl
  unfold startV at hl2
  rw [hkk] at hl2
  generalize hxa : x.a = xa at *
  generalize hxb : x.b = xb at *
  by_cases k6 : kk = 6
  · obtain ⟨a1, a2⟩ := hx.del (by omega)
    obtain ⟨a, rfl⟩ := Int.eq_ofNat_of_zero_le (show 0 ≤ xa by omega)
    simp [k6] at hl2 ⊢
    simp [ca]
    refine awCall_det' (l03Zeros_x a (by omega)) (by first | omega | (simp <;> omega) | simp) ?_
    try simp
    have t := newRow_in (M := M) (A := M ++ [Slot.live (rowI (List.replicate a 0))]) (q := M.length) (l := List.replicate a 0) (n := a) (t := false) (c := a) (by simp) (Nat.le_refl _) (by simp [rowI])
    subst hl2
    refine ⟨?_, keeps_app _⟩
    simpa using t
  by_cases k17 : kk = 17
  · obtain ⟨a1, a2⟩ := hx.comb (by omega)
    obtain ⟨a, rfl⟩ := Int.eq_ofNat_of_zero_le (show 0 ≤ xb by omega)
    simp [k17] at hl2 ⊢
    simp [cb]
    refine awCall_det' (l03Zeros_x a (by omega)) (by first | omega | (simp <;> omega) | simp) ?_
    try simp
    have t := newRow_in (M := M) (A := M ++ [Slot.live (rowI (List.replicate a 0))]) (q := M.length) (l := List.replicate a 0) (n := a) (t := false) (c := a) (by simp) (Nat.le_refl _) (by simp [rowI])
    subst hl2
    refine ⟨?_, keeps_app _⟩
    simpa using t
  by_cases k7 : kk = 7 ∨ kk = 8 ∨ kk = 16
  · have hl3 : l = [0] := by
      rcases k7 with h | h | h <;> simp [h] at hl2 <;> exact hl2.symm
    subst hl3
    rcases k7 with h | h | h
    all_goals
      simp [h, fill1I]
      exact ⟨newRow_one, keeps_app _⟩
  by_cases k12 : kk = 12 ∨ kk = 14
  · have hl3 : l = [xa] := by
      rcases k12 with h | h <;> simp [h] at hl2 <;> exact hl2.symm
    subst hl3
    rcases k12 with h | h
    all_goals
      simp [h, ca, fill1I]
      exact ⟨newRow_one, keeps_app _⟩
  have hl3 : l = [] := by
    have n1 : ¬ (kk = 7 ∨ kk = 8 ∨ kk = 16) := k7
    simp [k6, k17, n1, k12] at hl2
    exact hl2
  subst hl3
  have n7 : ¬ kk = 7 := fun h => k7 (.inl h)
  have n8 : ¬ kk = 8 := fun h => k7 (.inr (.inl h))
  have n16 : ¬ kk = 16 := fun h => k7 (.inr (.inr h))
  have n12 : ¬ kk = 12 := fun h => k12 (.inl h)
  have n14 : ¬ kk = 14 := fun h => k12 (.inr h)
  simp [k6, k17, n7, n8, n16, n12, n14]
  exact ⟨⟨M.length, 0, true, rfl, Nat.le_refl _, by simp [rowI, cellsL], fun h => by cases h⟩, keeps_app _⟩
theorem l08In_x {M : Mem} {lo hi lo1 hi1 lo2 hi2 id0 off0 : Nat} {us : List Value} {x : Node} {vv fv : Value} {fr vals : List Int} {p : Patch} (h : nodeP.rd lo hi M x us) (hc0 : Cl M id0 off0 us) (hvv : SlV intP lo1 hi1 M vv vals) (hf : SlV intP lo2 hi2 M fv fr) (hx : NodeOk p x) (hfl : p.inp = fr.length) (hvl : vals.length = p.nodes.length) :
    Det Tryz.prog M.length 219 [.pointer (some ⟨id0, off0, none⟩), fv, vv] M (.slice (some ⟨M.length, 0, none⟩) (inV x fr vals).length (inV x fr vals).length) (M ++ [.live (rowI (inV x fr vals))]) := by
  refine Ctr.compact (rowI_plain _) ?_
  obtain ⟨A, n, c, rfl, hu⟩ := node_box h
  have ck := hc0 0 _ rfl
  have ca := hc0 1 _ rfl
  have cf := hc0 3 _ rfl
  simp only [Nat.add_zero] at ck
  first | (refine ctr_fn Tryz.func219 rfl Tryz.ntmps219 Tryz.results219 rfl rfl (by simp) ?_) | (refine ctr_fnC Tryz.func219 rfl Tryz.ntmps219 Tryz.results219 rfl (by simp) ?_)
  simp [ck]
  by_cases k1 : x.k = 1
  · obtain ⟨a1, a2⟩ := hx.inp k1
    have e : inV x fr vals = [el fr x.a.toNat] := by simp [inV, k1]
    rw [e]
    obtain ⟨Af, nf, cf', rfl, hnf, -, hSf, -⟩ := sl_take hf
    obtain ⟨id, off, rfl, he, hc⟩ := sl_cells hSf (by omega)
    obtain ⟨a, ha⟩ := Int.eq_ofNat_of_zero_le a1
    have c1 := hc a (by omega)
    generalize hxa : x.a = xa at *
    subst ha
    have haf : a < nf := by omega
    simp (disch := omega) [k1, ca, c1, he, haf, fill1I]
    exact ⟨newRow_one, keeps_app _⟩
  · have e : inV x fr vals = x.from_.map fun f => el vals f.toNat := by simp [inV, k1]
    rw [e]
    simp [k1, cf]
    refine awCall_det' (l07Map_x hu hvv (from_small hx) fun k hk => ?_) (by first | omega | (simp <;> omega) | simp) ?_
    · have := List.all_eq_true.1 hx.idx _ (el_mem hk)
      have := inB_iff.1 this
      obtain ⟨f, hf⟩ := Int.eq_ofNat_of_zero_le this.1
      exact ⟨f, hf, by omega⟩
    try simp
    exact ⟨newRow_in (t := false) (by simp) (by omega) (by simp [rowI]), keeps_app _⟩
end Go.Proofs.YtimijeeihicohaaGreat
