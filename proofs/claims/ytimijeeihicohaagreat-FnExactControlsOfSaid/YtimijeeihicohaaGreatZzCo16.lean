/- Parts of the proof, together: Lists of lists are copied to rows of their own. The lists that ControlsOf hands back: equal, marked, held. Instruments, patches, envelopes: whether they are the same. Instruments: whether they are the same, the rest. ControlsOf, as its law needs it. No conditions. -/
import Derived.Test.YtimijeeihicohaaGreatZzCo15
import Derived.Test.YtimijeeihicohaaGreatZzCo14
import Derived.Test.YtimijeeihicohaaGreatZzCo10
namespace Go.Proofs.YtimijeeihicohaaGreat
open Go.RowKit
set_option linter.unusedVariables false
set_option linter.unusedSimpArgs false
set_option maxRecDepth 100000
attribute [local simp] List.getElem?_cons_zero
attribute [local irreducible] awCond awCall awLoop awDraw ow retQ retC resQ Keeps
section
variable {α : Type} {k : Nat} [Inhabited α]
theorem to_chainQ {P Q : RecP α k} {Mk : List Value → Value} {fn : FuncId} {e : TypeId} {z : List Value} {lo hi : Nat} {M : Mem} {A : Option Addr} {n : Nat} {l : List α} (h : SlP P lo hi M A n l) (hz : z.length = k) (hk : 0 < k)
    (hto : ∀ M1 i us, Keeps M M1 → i < n → P.rd lo hi M1 (el l i) us → ∃ vs N, Det Tryz.prog M1.length fn [Mk us] M1 (Mk vs) (M1 ++ N) ∧ Q.rd M1.length (M1 ++ N).length (M1 ++ N) (el l i) vs ∧ vs.all oneV = true ∧ (Mk vs).cells.toList = vs) :
    ∃ f : Nat → Mem, f 0 = M ++ [.live ⟨zrow z n, true, true, e, k⟩] ∧ (∀ j, j ≤ n → Keeps M (f j) ∧ M.length < (f j).length ∧ rowEsz (f j) M.length = some k) ∧
      (∀ j, j < n → ∀ id off us, A = some ⟨id, off, none⟩ → cellsAt M id (off + j * k) k = some us → ∃ vs N, Det Tryz.prog (f j).length fn [Mk us] (f j) (Mk vs) (f j ++ N) ∧ vs.length = k ∧ (Mk vs).cells.toList = vs ∧ putCells M.length (f j ++ N) M.length (j * k) vs = some (f (j + 1))) ∧
      ∃ N, f n = M ++ N ∧ PartS Q e z l M.length n n (f n) := by
  obtain ⟨f, f0, fI, fS⟩ := chain (n := n) (M0 := M ++ [.live ⟨zrow z n, true, true, e, k⟩]) (I := fun j M1 => Keeps M M1 ∧ M.length < M1.length ∧ PartS Q e z l M.length n j M1)
    (S := fun j M1 M2 => ∀ id off us, A = some ⟨id, off, none⟩ → cellsAt M id (off + j * k) k = some us → ∃ vs N, Det Tryz.prog M1.length fn [Mk us] M1 (Mk vs) (M1 ++ N) ∧ vs.length = k ∧ (Mk vs).cells.toList = vs ∧ putCells M.length (M1 ++ N) M.length (j * k) vs = some M2)
    ⟨keeps_app _, by simp, [], by simp, by simp, fun i hi => by omega⟩ fun j M1 hj ⟨hk1, hl1, hp⟩ => by
      obtain ⟨id, off, us, eA, he, hrd, hcl⟩ := h.at_ hj
      obtain ⟨vs, N, d1, d2, d3, d4⟩ := hto M1 j us hk1 hj (P.keeps hrd hk1)
      obtain ⟨M2, p1, p2, p3, p4⟩ := hp.step hj hz d2 d3 hl1
      refine ⟨M2, fun id' off' us' eA' hc' => ?_, ?_, by rw [p3, List.length_append]; omega, p2⟩
      · rw [eA] at eA'
        injection eA' with eA'
        injection eA' with e1 e2
        subst e1; subst e2
        rw [cellsAt_of hcl (P.len hrd) hk] at hc'
        injection hc' with hc'
        subst hc'
        exact ⟨vs, N, d1, Q.len d2, d4, p1⟩
      · unfold Keeps
        exact fun i s hs => p4 i s (by have := (List.getElem?_eq_some_iff.1 hs).1; omega) ((hk1.app N).get hs)
  obtain ⟨hkn, hln, cells, hr, hcl, hc⟩ := fI n (Nat.le_refl _)
  refine ⟨f, f0, fun j hj => ?_, fS, ?_⟩
  · obtain ⟨a, b, cells, hr, -⟩ := fI j hj
    exact ⟨a, b, by simp [rowEsz, hr]⟩
  · obtain ⟨N, hN⟩ := hkn.split
    exact ⟨N, hN, cells, hr, hcl, hc⟩
end
def tabO : RecP (List Int) 1 where
  rd := fun lo hi M l vs => ∃ id, vs = [.slice (some ⟨id, 0, none⟩) l.length l.length] ∧ lo ≤ id ∧ id < hi ∧ M[id]? = some (.live ⟨cellsL intR l, true, true, 2, 1⟩)
  len := fun ⟨_, h, _⟩ => by rw [h]; rfl
  agree := fun ⟨id, h1, h2, h3, h4⟩ hg => ⟨id, h1, h2, h3, hg _ _ h2 h3 h4⟩
  wide := fun ⟨id, h1, h2, h3, h4⟩ a b => ⟨id, h1, by omega, by omega, h4⟩
theorem toInt64S_o {M : Mem} {lo hi : Nat} {us : List Value} {x : List Int} (h : tabP.rd lo hi M x us) (hb : x.length ≤ 1048576) : ∃ vs N, Det Tryz.prog M.length 44 [one1 us] M (one1 vs) (M ++ N) ∧ tabO.rd M.length (M ++ N).length (M ++ N) x vs ∧ vs.all oneV = true ∧ (one1 vs).cells.toList = vs := by
  obtain ⟨u, rfl, A, n, c, rfl, h1, h2, h3⟩ := h
  have hl := h3.1
  subst hl
  exact ⟨[_], [.live ⟨cellsL intR x, true, true, 2, 1⟩], toInt64S_d h3.sl (by omega), ⟨M.length, rfl, Nat.le_refl _, by simp, by simp⟩, rfl, rfl⟩
theorem sso_of {M : Mem} {e : TypeId} {z : List Value} {l : List (List Int)} {b n : Nat} (h : PartS tabO e z l b n n M) (hl : l.length = n) (hn : n ≤ 1048576) (hb : b < M.length) : SSo b M.length M (.slice (some ⟨b, 0, none⟩) n n) l := by
  obtain ⟨cells, hr, hcl, hc⟩ := h
  rw [Nat.sub_self] at hr
  refine ⟨b, n, cells, e, rfl, hl, hn, Nat.le_refl _, hb, by simpa using hr, by rw [hcl, Nat.mul_one], fun i hi => ?_⟩
  obtain ⟨us, ⟨jd, rfl, g2, g3, g4⟩, hx⟩ := hc i hi
  have := hx 0 _ rfl
  simp only [Nat.mul_one, Nat.add_zero] at this
  exact ⟨jd, this, by omega, g3, g4⟩
theorem toInt64SS_o {M : Mem} {lo hi : Nat} {u : Value} {l : List (List Int)} (h : SlV tabP lo hi M u l) (hn : l.length ≤ 1048576) (hb : ∀ x, x ∈ l → x.length ≤ 1048576) : ∃ v N, Det Tryz.prog M.length 87 [u] M v (M ++ N) ∧ SSo M.length (M ++ N).length (M ++ N) v l := by
  obtain ⟨A, n, c, rfl, h1, h2, h3⟩ := h
  have hl := h3.1
  obtain ⟨f, f0, fI, fS, N, fN, hS⟩ := to_chainQ (P := tabP) (Q := tabO) (Mk := one1) (fn := 44) (e := 24) (z := [.slice none 0 0]) h3 rfl (by omega) (fun M1 i us hk hi hrd => toInt64S_o hrd (hb _ (el_mem (by omega))))
  have hN := fI n (Nat.le_refl _)
  rw [fN] at hS
  refine ⟨.slice (some ⟨M.length, 0, none⟩) n n, N, Ctr.det ?_, sso_of hS hl (by omega) (by have := hN.2.1; rwa [fN] at this)⟩
  first | (refine ctr_fn Tryz.func87 rfl Tryz.ntmps87 Tryz.results87 rfl rfl (by simp) ?_) | (refine ctr_fnC Tryz.func87 rfl Tryz.ntmps87 Tryz.results87 rfl (by simp) ?_)
  simp
  refine ⟨by omega, ?_⟩
  refine awLoop_T (fun m T M' => ∃ k : Nat, k + m = n ∧ M' = f k ∧ look T 4 = some (iv k) ∧ look T 0 = some (.slice A n c) ∧ look T 3 = some (.slice (some ⟨M.length, 0, none⟩) n n)) n ⟨0, by omega, by rw [f0], by simp, by simp, by simp⟩ ?_
  rintro m T M' ⟨k, hm, rfl, h4, h0, h3'⟩
  by_cases hlt : k < n
  · obtain ⟨id, off, us, rfl, he, hrd, hc⟩ := h3.at_ hlt
    obtain ⟨g1, g2, g3⟩ := fI k (by omega)
    obtain ⟨vs, N', d1, d2, d2', d3⟩ := fS k hlt id off us rfl (cellsAt_of hc (tabP.len hrd) (by omega))
    obtain ⟨u, rfl, hu⟩ := hrd
    have c1 := (cl_cons.1 hc).1
    simp only [Nat.mul_one] at c1
    have c2 := cellAt_keeps g1 c1
    simp (disch := omega) [h3', h4, h0, hlt, wrap_in, c2, g3, rowEsz_keeps g1 he]
    refine awCall_det' d1 (by omega) ?_
    have g4 : rowEsz (f k ++ N') M.length = some 1 := rowEsz_keeps (keeps_app _) g3
    have hsz : (one1 vs).cells.size = 1 := by rw [← Array.length_toList, d2', d2]
    try simp (disch := omega) [h3', h4, h0, g4, wrap_in, hlt]
    refine ⟨hsz.symm, ?_⟩
    simp only [Nat.mul_one] at d3
    try rw [d2']
    rw [d3, ow_some]
    try simp (disch := omega) [h3', h4, h0, wrap_in]
    exact lpI (m - 1) (by omega) ⟨k + 1, by omega, rfl, by simp, by simp [h0], by simp [h3']⟩
  · obtain rfl : k = n := by omega
    simp [h3', h4, h0]
    exact fN
/-- A list of numbers in a row of one's own. -/
theorem Acc.owl {e : TypeId} {B : Nat} {M : Mem} {v : Value} {l : List Int} (h : Acc intR e B M v l) (hn : l.length ≤ 1099511627776) : OwL intR B M.length M v l := by
  obtain ⟨A, n, c, rfl, hl, hA⟩ := h
  rcases hA with ⟨rfl, rfl, rfl⟩ | ⟨id, t, rfl, hid, hr⟩
  · exact ⟨none, 0, 0, rfl, by omega, ⟨hl, fun h => by omega⟩, (fun a e => by cases e), fun h => by omega⟩
  · refine ⟨_, n, c, rfl, by omega, ⟨hl, fun _ => ⟨id, 0, rfl, by simp [rowEsz, hr], fun j x hx => by simp [cellAt, hr, hx]⟩⟩, fun a e _ => ?_, fun _ => ⟨id, 0, _, rfl, hr, rfl⟩⟩
    injection e with e
    subst e
    exact ⟨hid, (List.getElem?_eq_some_iff.1 hr).1⟩
theorem mark_IntA {M : Mem} {b B : Nat} {e : TypeId} {v : Value} {l : List Int} {z : Int} (h : Acc intR e B M v l) (hb : b ≤ B) (hn : l.length ≤ 1048576) (hz : 0 ≤ z) (hz1 : z ≤ 1152921504606846976) :
    Ctr Tryz.prog b 23 [v, iv z] M fun r M' => r = iv (z + l.length) ∧ Acc intR e B M' v (markIL z l.length) ∧ Turn B M.length M M' := by
  obtain ⟨A, n, c, rfl, hl, hA⟩ := h
  rcases hA with ⟨rfl, rfl, rfl⟩ | ⟨id, t, rfl, hid, hr⟩
  · obtain rfl := List.eq_nil_of_length_eq_zero hl
    refine (markInt64S_0 z).mono ?_
    rintro r M' ⟨rfl, rfl⟩
    exact ⟨by simp, .nil, Nat.le_refl _, fun i s hs _ => hs⟩
  · have hlt := (List.getElem?_eq_some_iff.1 hr).1
    refine (markInt64S_r (off := 0) z hr (by omega) (by rw [cellsL_len]; omega) (by omega) hz hz1).mono ?_
    rintro r M' ⟨rfl, rfl⟩
    refine ⟨by rw [hl], ⟨_, n, c, rfl, by simp [markIL, hl], .inr ⟨id, t, rfl, hid, ?_⟩⟩, by simp, fun i s hs hd => ?_⟩
    · rw [List.getElem?_set_self hlt, List.drop_of_length_le (by rw [cellsL_len]; omega), hl]
      simp
    · rw [List.getElem?_set_ne (by omega)]
      exact hs
theorem held_IntA {M : Mem} {B m : Nat} {e : TypeId} {v : Value} {z : Int} (h : Acc intR e B M v (markIL z m)) (hn : m ≤ 1048576) (hz : 0 ≤ z) (hz1 : z ≤ 1152921504606846976) : Det Tryz.prog M.length 24 [v, iv z] M (iv (z + m)) M := by
  obtain ⟨A, n, c, rfl, hl, hS, -⟩ := h.sl
  have hm : m = n := by simpa [markIL] using hl
  subst hm
  exact heldInt64S_a z hS (by omega) hz hz1
end Go.Proofs.YtimijeeihicohaaGreat

namespace Go.Proofs.YtimijeeihicohaaGreat
open Go.RowKit
set_option linter.unusedVariables false
set_option linter.unusedSimpArgs false
set_option maxRecDepth 100000
attribute [local simp] List.getElem?_cons_zero
attribute [local irreducible] awCond awCall awLoop awDraw ow retQ retC resQ Keeps
theorem Acc.turn {α : Type} {k : Nat} {R : RecV α k} {e : TypeId} {B lo hi : Nat} {M M' : Mem} {v : Value} {l : List α} (h : Acc R e B M v l) (ht : Turn lo hi M M') (hb : hi ≤ B) : Acc R e B M' v l := by
  obtain ⟨A, n, c, h1, h2, h3⟩ := h
  refine ⟨A, n, c, h1, h2, ?_⟩
  rcases h3 with h3 | ⟨id, t, h4, h5, h6⟩
  · exact .inl h3
  · exact .inr ⟨id, t, h4, h5, ht.2 id _ h6 (.inr (by omega))⟩
theorem Ctl.turn {M M' : Mem} {B oid i0 i1 i2 lo hi : Nat} {v0 v1 v2 : Value} {l0 l1 l2 : List Int} (h : Ctl M B oid i0 i1 i2 v0 v1 v2 l0 l1 l2) (ht : Turn lo hi M M') (hb : hi ≤ B) : Ctl M' B oid i0 i1 i2 v0 v1 v2 l0 l1 l2 :=
  ⟨h.low, ⟨h.orow.choose, ht.2 _ _ h.orow.choose_spec (.inr (by have := h.low; omega))⟩, h.r0.keep fun s hs => ht.2 _ _ hs (.inr (by have := h.r0.low; omega)), h.r1.keep fun s hs => ht.2 _ _ hs (.inr (by have := h.r1.low; omega)), h.r2.keep fun s hs => ht.2 _ _ hs (.inr (by have := h.r2.low; omega)), h.apart⟩
def totL (ls : List (List Int)) : Nat := (ls.map List.length).sum
def mkLL (z : Int) : List (List Int) → List (List Int)
  | [] => []
  | l :: ls => markIL z l.length :: mkLL (z + l.length) ls
/-- No list, or three lists in rows of one's own. -/
def CtO (B : Nat) (M : Mem) (u : Value) (ls : List (List Int)) : Prop :=
  (ls = [] ∧ u = .slice none 0 0) ∨ ∃ oid i0 i1 i2 v0 v1 v2 l0 l1 l2, u = .slice (some ⟨oid, 0, none⟩) 3 3 ∧ ls = [l0, l1, l2] ∧ Ctl M B oid i0 i1 i2 v0 v1 v2 l0 l1 l2
theorem CtO.keeps {B : Nat} {M M' : Mem} {u : Value} {ls : List (List Int)} (h : CtO B M u ls) (hk : Keeps M M') : CtO B M' u ls := by
  rcases h with h | ⟨oid, i0, i1, i2, v0, v1, v2, l0, l1, l2, e, e2, h⟩
  · exact .inl h
  · exact .inr ⟨_, _, _, _, _, _, _, _, _, _, e, e2, h.keeps hk⟩
theorem CtO.turn {B lo hi : Nat} {M M' : Mem} {u : Value} {ls : List (List Int)} (h : CtO B M u ls) (ht : Turn lo hi M M') (hb : hi ≤ B) : CtO B M' u ls := by
  rcases h with h | ⟨oid, i0, i1, i2, v0, v1, v2, l0, l1, l2, e, e2, h⟩
  · exact .inl h
  · exact .inr ⟨_, _, _, _, _, _, _, _, _, _, e, e2, h.turn ht hb⟩
theorem Row1.slv {M : Mem} {B id : Nat} {v : Value} {l : List Int} (h : Row1 M B v id l) (hl : l.length ≤ 4000) : tabP.rd B M.length M l [v] := by
  obtain ⟨h1, t, c, rfl, h3⟩ := h
  have hlt := (List.getElem?_eq_some_iff.1 h3).1
  refine ⟨_, rfl, _, _, c, rfl, by omega, (fun h => by cases h), SlP.of_sl ⟨rfl, fun _ => ⟨id, 0, rfl, by simp [rowEsz, h3], fun j x hx => by simp [cellAt, h3, hx]⟩⟩ fun a e _ => ?_⟩
  injection e with e
  subst e
  exact ⟨h1, hlt⟩
theorem CtO.slv {B : Nat} {M : Mem} {u : Value} {ls : List (List Int)} (h : CtO B M u ls) (hl : ∀ l, l ∈ ls → l.length ≤ 4000) : SlV tabP B M.length M u ls := by
  rcases h with ⟨rfl, rfl⟩ | ⟨oid, i0, i1, i2, v0, v1, v2, l0, l1, l2, rfl, rfl, h⟩
  · exact .nil
  · obtain ⟨e, he⟩ := h.orow
    refine ⟨_, 3, 3, rfl, by omega, (fun h => by cases h), rfl, fun _ => ⟨oid, 0, rfl, h.low, (List.getElem?_eq_some_iff.1 he).1, by simp [rowEsz, he], fun i hi => ?_⟩⟩
    have hc : i = 0 ∨ i = 1 ∨ i = 2 := by omega
    rcases hc with rfl | rfl | rfl
    · exact ⟨[v0], h.r0.slv (hl _ (by simp)), cl_cons.2 ⟨by simp [cellAt, he], cl_nil⟩⟩
    · exact ⟨[v1], h.r1.slv (hl _ (by simp)), cl_cons.2 ⟨by simp [cellAt, he], cl_nil⟩⟩
    · exact ⟨[v2], h.r2.slv (hl _ (by simp)), cl_cons.2 ⟨by simp [cellAt, he], cl_nil⟩⟩
theorem markIL_len {z : Int} {n : Nat} : (markIL z n).length = n := by simp [markIL]
/-- A list in a row of one's own is marked. -/
theorem markInt64S_1 {M : Mem} {b B id : Nat} {v : Value} {l : List Int} (z : Int) (h : Row1 M B v id l) (hb : b ≤ B) (hl : l.length ≤ 4000) (hz0 : 0 ≤ z) (hz : z ≤ 1048576) :
    Ctr Tryz.prog b 23 [v, iv z] M fun r M' => r = iv (z + l.length) ∧ Row1 M' B v id (markIL z l.length) ∧ M'.length = M.length ∧ ∀ (q : Nat) s, q ≠ id → M[q]? = some s → M'[q]? = some s := by
  obtain ⟨h1, t, c, rfl, h3⟩ := h
  have hlt := (List.getElem?_eq_some_iff.1 h3).1
  refine (markInt64S_r (off := 0) z h3 (by omega) (by rw [cellsL_len]; omega) (by omega) hz0 (by omega)).mono ?_
  rintro r M' ⟨rfl, rfl⟩
  refine ⟨rfl, ⟨h1, t, c, by rw [markIL_len], ?_⟩, by simp, fun q s hq hs => by rw [List.getElem?_set_ne (Ne.symm hq)]; exact hs⟩
  rw [List.getElem?_set_self hlt, List.drop_of_length_le (by rw [cellsL_len]; omega)]
  simp
theorem mark_CtO {M : Mem} {b B : Nat} {u : Value} {ls : List (List Int)} (h : CtO B M u ls) (hb : b ≤ B) (hl : ∀ l, l ∈ ls → l.length ≤ 4000) :
    Ctr Tryz.prog b 18 [u, iv 1] M fun v M' => v = iv (1 + totL ls) ∧ CtO B M' u (mkLL 1 ls) ∧ Turn B M.length M M' := by
  rcases h with ⟨rfl, rfl⟩ | ⟨oid, i0, i1, i2, v0, v1, v2, l0, l1, l2, rfl, rfl, h⟩
  · first | (refine ctr_fn Tryz.func18 rfl Tryz.ntmps18 Tryz.results18 rfl rfl (by simp) ?_) | (refine ctr_fnC Tryz.func18 rfl Tryz.ntmps18 Tryz.results18 rfl (by simp) ?_)
    simp
    refine awLoop_T (fun m T M' => M' = M ∧ look T 5 = some (iv 0) ∧ look T 1 = some (iv 1) ∧ look T 0 = some (.slice none 0 0)) 0 ⟨rfl, by simp, by simp, by simp⟩ ?_
    rintro m T M' ⟨rfl, h5, h1, h0⟩
    simp [h5, h1, h0]
    exact ⟨rfl, .inl ⟨rfl, rfl⟩, ⟨Nat.le_refl _, fun i s hs _ => hs⟩⟩
  · have w0 := hl l0 (by simp)
    have w1 := hl l1 (by simp)
    have w2 := hl l2 (by simp)
    have ha := h.apart
    obtain ⟨e, he⟩ := h.orow
    have sum : totL [l0, l1, l2] = l0.length + l1.length + l2.length := by simp [totL]; omega
    first | (refine ctr_fn Tryz.func18 rfl Tryz.ntmps18 Tryz.results18 rfl rfl (by simp) ?_) | (refine ctr_fnC Tryz.func18 rfl Tryz.ntmps18 Tryz.results18 rfl (by simp) ?_)
    simp
    refine awLoop_T (fun m T M' => ∃ (j : Nat) (z : Int) (q0 q1 q2 : List Int), j + m = 3 ∧ M'.length = M.length ∧ Turn B M.length M M' ∧ Ctl M' B oid i0 i1 i2 v0 v1 v2 q0 q1 q2 ∧ M'[oid]? = some (.live ⟨[v0, v1, v2], true, true, e, 1⟩) ∧ q0 = (if 0 < j then markIL 1 l0.length else l0) ∧ q1 = (if 1 < j then markIL (1 + l0.length) l1.length else l1) ∧ q2 = (if 2 < j then markIL (1 + l0.length + l1.length) l2.length else l2) ∧
        z = 1 + ((if 0 < j then l0.length else 0) + (if 1 < j then l1.length else 0) + (if 2 < j then l2.length else 0) : Nat) ∧ look T 5 = some (iv j) ∧ look T 1 = some (iv z) ∧ look T 0 = some (.slice (some ⟨oid, 0, none⟩) 3 3)) 3 ⟨0, 1, l0, l1, l2, by omega, rfl, ⟨Nat.le_refl _, fun i s hs _ => hs⟩, h, he, by simp, by simp, by simp, by simp, by simp, by simp, by simp⟩ ?_
    rintro m T M1 ⟨j, z, q0, q1, q2, hm, hlen, ht, hc, ho, rfl, rfl, rfl, rfl, t5, t1, t0⟩
    have hlow := h.low
    by_cases hlt : j < 3
    · have hez : rowEsz M1 oid = some 1 := by simp [rowEsz, ho]
      have hjj : j = 0 ∨ j = 1 ∨ j = 2 := by omega
      rcases hjj with rfl | rfl | rfl
      · simp only [Nat.lt_irrefl, if_false, Nat.not_lt_zero, if_neg (show ¬ 1 < 0 by omega), if_neg (show ¬ 2 < 0 by omega)] at hc t1
        have c1 : cellAt M1 oid 0 = some v0 := by simp [cellAt, ho]
        have r0 := hc.r0
        simp (disch := omega) [t5, t1, t0, c1, hez, wrap_in]
        refine awCall_ctr (markInt64S_1 _ r0 hb w0 (by omega) (by omega)) ?_
        rintro _ M2 ⟨rfl, hr, hl2, hk⟩
        try simp (disch := omega) [t5, wrap_in]
        refine lpI (m - 1) (by omega) ⟨1, _, _, _, _, by omega, by omega, ⟨by omega, fun i s hs hd => hk i s (by have := hc.r0.low; have := (List.getElem?_eq_some_iff.1 hs).1; have := (List.getElem?_eq_some_iff.1 hc.r0.row.choose_spec.choose_spec.2).1; omega) (ht.2 i s hs hd)⟩, ⟨hlow, ⟨e, hk _ _ (Ne.symm ha.2.2.2.1) ho⟩, hr, hc.r1.keep fun s hs => hk _ _ (Ne.symm ha.1) hs, hc.r2.keep fun s hs => hk _ _ (Ne.symm ha.2.1) hs, ha⟩, hk _ _ (Ne.symm ha.2.2.2.1) ho, by simp, by simp, by simp, rfl, by simp, by simp, by simp [t0]⟩
      · simp only [Nat.lt_irrefl, if_false, if_pos (show 0 < 1 by omega), if_neg (show ¬ 2 < 1 by omega)] at hc t1
        have c1 : cellAt M1 oid 1 = some v1 := by simp [cellAt, ho]
        have r1 := hc.r1
        simp (disch := omega) [t5, t1, t0, c1, hez, wrap_in]
        refine awCall_ctr (markInt64S_1 _ r1 hb w1 (by omega) (by omega)) ?_
        rintro _ M2 ⟨rfl, hr, hl2, hk⟩
        try simp (disch := omega) [t5, wrap_in]
        refine lpI (m - 1) (by omega) ⟨2, _, _, _, _, by omega, by omega, ⟨by omega, fun i s hs hd => hk i s (by have := hc.r1.low; have := (List.getElem?_eq_some_iff.1 hs).1; have := (List.getElem?_eq_some_iff.1 hc.r1.row.choose_spec.choose_spec.2).1; omega) (ht.2 i s hs hd)⟩, ⟨hlow, ⟨e, hk _ _ (Ne.symm ha.2.2.2.2.1) ho⟩, hc.r0.keep fun s hs => hk _ _ ha.1 hs, hr, hc.r2.keep fun s hs => hk _ _ (Ne.symm ha.2.2.1) hs, ha⟩, hk _ _ (Ne.symm ha.2.2.2.2.1) ho, by simp, by simp, by simp, rfl, by simp, by simp; omega, by simp [t0]⟩
      · simp only [Nat.lt_irrefl, if_false, if_pos (show 0 < 2 by omega), if_pos (show 1 < 2 by omega)] at hc t1
        have c1 : cellAt M1 oid 2 = some v2 := by simp [cellAt, ho]
        have r2 := hc.r2
        simp (disch := omega) [t5, t1, t0, c1, hez, wrap_in]
        refine awCall_ctr (markInt64S_1 _ r2 hb w2 (by omega) (by omega)) ?_
        rintro _ M2 ⟨rfl, hr, hl2, hk⟩
        try simp (disch := omega) [t5, wrap_in]
        refine lpI (m - 1) (by omega) ⟨3, _, _, _, _, by omega, by omega, ⟨by omega, fun i s hs hd => hk i s (by have := hc.r2.low; have := (List.getElem?_eq_some_iff.1 hs).1; have := (List.getElem?_eq_some_iff.1 hc.r2.row.choose_spec.choose_spec.2).1; omega) (ht.2 i s hs hd)⟩, ⟨hlow, ⟨e, hk _ _ (Ne.symm ha.2.2.2.2.2) ho⟩, hc.r0.keep fun s hs => hk _ _ ha.2.1 hs, hc.r1.keep fun s hs => hk _ _ ha.2.2.1 hs, hr, ha⟩, hk _ _ (Ne.symm ha.2.2.2.2.2) ho, by simp, by simp, by simp [Int.add_assoc], rfl, by simp, by simp; omega, by simp [t0]⟩
    · obtain rfl : j = 3 := by omega
      simp only [if_pos (show 0 < 3 by omega), if_pos (show 1 < 3 by omega), if_pos (show 2 < 3 by omega)] at hc t1
      simp [t5, t1, t0]
      rw [sum]
      exact ⟨by simp, .inr ⟨_, _, _, _, _, _, _, _, _, _, rfl, rfl, hc⟩, ht⟩
theorem held_CtO {M : Mem} {B : Nat} {u : Value} {ls : List (List Int)} (h : CtO B M u (mkLL 1 ls)) (hl : ∀ l, l ∈ ls → l.length ≤ 4000) :
    Det Tryz.prog M.length 19 [u, iv 1] M (iv (1 + totL ls)) M := by
  rcases h with ⟨hn, rfl⟩ | ⟨oid, i0, i1, i2, v0, v1, v2, l0, l1, l2, rfl, e2, h⟩
  · have : ls = [] := by
      cases ls with
      | nil => rfl
      | cons a b => cases hn
    subst this
    first | (refine det_fn Tryz.func19 rfl Tryz.ntmps19 Tryz.results19 rfl rfl rfl (by simp) ?_) | (refine det_fnC Tryz.func19 rfl Tryz.ntmps19 Tryz.results19 rfl rfl (by simp) ?_)
    simp
    refine awLoop_T (fun m T M' => M' = M ∧ look T 5 = some (iv 0) ∧ look T 1 = some (iv 1) ∧ look T 0 = some (.slice none 0 0)) 0 ⟨rfl, by simp, by simp, by simp⟩ ?_
    rintro m T M' ⟨rfl, h5, h1, h0⟩
    simp [h5, h1, h0, totL, Keeps.refl]
  · obtain ⟨p0, p1, p2, rfl⟩ : ∃ p0 p1 p2, ls = [p0, p1, p2] := by
      match ls, e2 with
      | [a, b, c], _ => exact ⟨a, b, c, rfl⟩
    simp only [mkLL, List.cons.injEq, and_true] at e2
    obtain ⟨rfl, rfl, rfl⟩ := e2
    have w0 := hl p0 (by simp)
    have w1 := hl p1 (by simp)
    have w2 := hl p2 (by simp)
    have sum : totL [p0, p1, p2] = p0.length + p1.length + p2.length := by simp [totL]; omega
    obtain ⟨e, he⟩ := h.orow
    have hez : rowEsz M oid = some 1 := by simp [rowEsz, he]
    first | (refine det_fn Tryz.func19 rfl Tryz.ntmps19 Tryz.results19 rfl rfl rfl (by simp) ?_) | (refine det_fnC Tryz.func19 rfl Tryz.ntmps19 Tryz.results19 rfl rfl (by simp) ?_)
    simp
    refine awLoop_T (fun m T M' => ∃ (j : Nat), j + m = 3 ∧ M' = M ∧ look T 5 = some (iv j) ∧ look T 1 = some (iv (1 + ((if 0 < j then p0.length else 0) + (if 1 < j then p1.length else 0) + (if 2 < j then p2.length else 0) : Nat))) ∧ look T 0 = some (.slice (some ⟨oid, 0, none⟩) 3 3)) 3 ⟨0, by omega, rfl, by simp, by simp, by simp⟩ ?_
    rintro m T M1 ⟨j, hm, rfl, t5, t1, t0⟩
    by_cases hlt : j < 3
    · have hjj : j = 0 ∨ j = 1 ∨ j = 2 := by omega
      have hd : ∀ {v : Value} {id : Nat} {z : Int} {n : Nat}, Row1 M1 B v id (markIL z n) → n ≤ 4000 → 0 ≤ z → z ≤ 1048576 → Det Tryz.prog M1.length 24 [v, iv z] M1 (iv (z + n)) M1 := by
        intro v id z n hr hn hz0 hz
        obtain ⟨-, t, c, rfl, h3⟩ := hr
        rw [markIL_len]
        exact heldInt64S_a z ⟨markIL_len, fun _ => ⟨id, 0, rfl, by simp [rowEsz, h3], fun j x hx => by simp [cellAt, h3, hx]⟩⟩ (by omega) hz0 (by omega)
      rcases hjj with rfl | rfl | rfl
      · have c1 : cellAt M1 oid 0 = some v0 := by simp [cellAt, he]
        simp at t1
        simp (disch := omega) [t5, t1, t0, c1, hez, wrap_in]
        refine awCall_det' (hd h.r0 w0 (by omega) (by omega)) (by omega) ?_
        have hng : ¬ (1 + (p0.length : Int) < 0) := by omega
        simp (disch := omega) [t5, wrap_in, hng]
        exact lpI (m - 1) (by omega) ⟨1, by omega, rfl, by simp, by simp, by simp [t0]⟩
      · have c1 : cellAt M1 oid 1 = some v1 := by simp [cellAt, he]
        simp at t1
        simp (disch := omega) [t5, t1, t0, c1, hez, wrap_in]
        refine awCall_det' (hd h.r1 w1 (by omega) (by omega)) (by omega) ?_
        have hng : ¬ (1 + (p0.length : Int) + p1.length < 0) := by omega
        simp (disch := omega) [t5, wrap_in, hng]
        exact lpI (m - 1) (by omega) ⟨2, by omega, rfl, by simp, by simp; omega, by simp [t0]⟩
      · have c1 : cellAt M1 oid 2 = some v2 := by simp [cellAt, he]
        simp at t1
        have t1' : look T 1 = some (iv (1 + p0.length + p1.length)) := by rw [t1]; simp; omega
        simp (disch := omega) [t5, t1', t0, c1, hez, wrap_in]
        refine awCall_det' (hd h.r2 w2 (by omega) (by omega)) (by omega) ?_
        have hng : ¬ (1 + (p0.length : Int) + p1.length + p2.length < 0) := by omega
        simp (disch := omega) [t5, wrap_in, hng]
        exact lpI (m - 1) (by omega) ⟨3, by omega, rfl, by simp, by simp; omega, by simp [t0]⟩
    · obtain rfl : j = 3 := by omega
      simp at t1
      simp [t5, t1, t0, sum, Keeps.refl]
def ctV (x : Inst) (l : List Gate) (N : Int) : List (List Int) × Int := if codeV x l N true = 0 then ([mkC N.toNat (allP l) (ctl0 x l), mkC N.toNat (allP l) (ctl1 x l), mkC N.toNat (allP l) (ctl2 x l)], 0) else ([], codeV x l N true)
def CtS (x : Inst) (l : List Gate) (N : Int) (M : Mem) (r : Value) (M' : Mem) : Prop := ∃ u, r = .tuple #[u, iv (ctV x l N).2] ∧ CtO M.length M' u (ctV x l N).1 ∧ Same M.length M M'
theorem CtR.s {x : Inst} {l : List Gate} {N : Int} {M M' : Mem} {r : Value} (h : CtR x l N M r M') : CtS x l N M r M' := by
  obtain ⟨hs, h | h⟩ := h
  · obtain ⟨hc, oid, i0, i1, i2, v0, v1, v2, rfl, h⟩ := h
    unfold CtS ctV
    rw [if_pos hc]
    exact ⟨_, rfl, .inr ⟨_, _, _, _, _, _, _, _, _, _, rfl, rfl, h⟩, hs⟩
  · obtain ⟨hc, rfl⟩ := h
    unfold CtS ctV
    rw [if_neg hc]
    exact ⟨_, rfl, .inl ⟨rfl, rfl⟩, hs⟩
theorem ctV_len {x : Inst} {l : List Gate} {N : Int} : ∀ q, q ∈ (ctV x l N).1 → q.length ≤ 4000 := by
  intro q hq
  unfold ctV at hq
  split at hq
  · rename_i hc
    have h3 := inB_iff.1 (codeV_ok hc).2.2.1
    simp at hq
    rcases hq with rfl | rfl | rfl <;> (rw [mkC_len]; omega)
  · simp at hq
end Go.Proofs.YtimijeeihicohaaGreat

namespace Go.Proofs.YtimijeeihicohaaGreat
open Go.RowKit
set_option linter.unusedVariables false
set_option linter.unusedSimpArgs false
set_option maxRecDepth 100000
attribute [local simp] List.getElem?_cons_zero
attribute [local irreducible] awCond awCall awLoop awDraw ow retQ retC resQ Keeps
end Go.Proofs.YtimijeeihicohaaGreat

namespace Go.Proofs.YtimijeeihicohaaGreat
open Go.RowKit
set_option linter.unusedVariables false
set_option linter.unusedSimpArgs false
set_option maxRecDepth 100000
attribute [local simp] List.getElem?_cons_zero
attribute [local irreducible] awCond awCall awLoop awDraw ow retQ retC resQ Keeps
theorem inst_one {lo hi : Nat} {M : Mem} {x : Inst} {vs : List Value} (h : instP.rd lo hi M x vs) : vs.all oneV = true := by
  obtain ⟨ps, es, w, rfl, hp, he, hw⟩ := h
  obtain ⟨A1, n1, c1, A2, n2, c2, A3, n3, c3, rfl⟩ := patch_isV hp
  obtain ⟨A4, n4, c4, rfl⟩ := env_isV he
  obtain ⟨A5, n5, c5, rfl⟩ := hw.isSl
  simp
theorem put_boxI {b : Nat} {M : Mem} {vs cs : List Value} {t : Bool} {e : TypeId} {z : Nat} (hb : b ≤ M.length) (hl : vs.length = cs.length) (h1 : vs.all oneV = true) :
    putCells b (M ++ [.live ⟨cs, true, t, e, z⟩]) M.length 0 vs = some (M ++ [.live ⟨vs, true, t, e, z⟩]) := by
  rw [put_whole getElem?_snoc_eq hb hl h1]
  simp
theorem cells_own {M : Mem} {vs : List Value} {t o : Bool} {e : TypeId} {z n : Nat} (h : vs.length = n) : cellsAt (M ++ [.live ⟨vs, o, t, e, z⟩]) M.length 0 n = some vs := by
  rw [cellsAt_new0, cellsAt_zero, if_pos (by show 0 + n ≤ vs.length; omega)]
  show some ((vs.drop 0).take n) = some vs
  rw [List.drop_zero, List.take_of_length_le (by omega)]
/-- A box in which an instrument is laid. -/
theorem inst_box {b lo hi : Nat} {M M' : Mem} {x : Inst} {vs cs : List Value} {t : Bool} {e : TypeId} {z : Nat} {K : Mem → Prop} (h : instP.rd lo hi M x vs) (hb : b ≤ M'.length) (hc : cs.length = 8) (hK : K (M' ++ [.live ⟨vs, true, t, e, z⟩])) :
    8 = (Value.agg vs.toArray).cells.size ∧ ow (putCells b (M' ++ [.live ⟨cs, true, t, e, z⟩]) M'.length 0 (Value.agg vs.toArray).cells.toList) K := by
  have hl := instP.len h
  have e1 : (Value.agg vs.toArray).cells.toList = vs := rfl
  refine ⟨by rw [← Array.length_toList, e1, hl], ?_⟩
  rw [e1, put_boxI hb (by omega) (inst_one h), ow_some]
  exact hK
end Go.Proofs.YtimijeeihicohaaGreat

namespace Go.Proofs.YtimijeeihicohaaGreat
open Go.RowKit
set_option linter.unusedVariables false
set_option linter.unusedSimpArgs false
set_option maxRecDepth 100000
attribute [local simp] List.getElem?_cons_zero
attribute [local irreducible] awCond awCall awLoop awDraw ow retQ retC resQ Keeps
theorem ControlsOf_sl {M : Mem} {b lo hi lo' hi' : Nat} {us : List Value} {x : Inst} {v : Value} {l : List Gate} (N : Int) (h : instP.rd lo hi M x us) (hg : RdL gateR lo' hi' M v l) (hl : l.length ≤ 1048576) (hb : b ≤ M.length) :
    Ctr Tryz.prog b 9 [.agg us.toArray, v, iv N] M fun r M' => CtS x l N M r M' := by
  obtain ⟨A, n, c, rfl, hn, hS, -⟩ := hg
  exact (ControlsOf_s N h hS (by have := hS.1; omega) hb).mono fun _ _ h => h.s
theorem ControlsOf_il {M : Mem} {b lo hi lo' hi' : Nat} {us : List Value} {x : Inst} {v : Value} {l : List Gate} (N : Int) (h : instP.rd lo hi M x us) (hg : RdL gateR lo' hi' M v l) (hl : l.length ≤ 1048576) (hb : b ≤ M.length) :
    Ctr Tryz.prog b 12 [.agg us.toArray, v, iv N] M fun r M' => CtS x l N M r M' := by
  obtain ⟨A, n, c, rfl, hn, hS, -⟩ := hg
  exact (ControlsOf_i N h hS (by have := hS.1; omega) hb).mono fun _ _ h => h.s
theorem mkInst_le {x : Inst} (h : wtInst x ≤ 1048576) : mkInst x ≤ 3145728 := by
  have hwt : wtInst x = wtPatch x.pat + x.env.segs.length + x.steps.length := rfl
  have hwp : wtPatch x.pat = x.pat.tabs.length + sumW wtInt64S x.pat.tabs x.pat.tabs.length + (x.pat.nodes.length + sumW wtNode x.pat.nodes x.pat.nodes.length) + x.pat.outs.length := rfl
  unfold mkInst mkPatch
  omega
end Go.Proofs.YtimijeeihicohaaGreat
