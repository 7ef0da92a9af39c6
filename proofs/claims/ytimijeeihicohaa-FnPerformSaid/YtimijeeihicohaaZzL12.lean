/- Drawn patches. No conditions. -/
import Derived.Test.YtimijeeihicohaaZzL11
import Derived.Test.YtimijeeihicohaaZzL10
namespace Go.Proofs.Ytimijeeihicohaa
open Go.RowKit
set_option linter.unusedVariables false
set_option linter.unusedSimpArgs false
set_option maxRecDepth 100000
attribute [local simp] List.getElem?_cons_zero
attribute [local irreducible] awCond awCall awLoop awDraw ow retQ retC resQ Keeps
/-- Rows below C, but for g and q, are as they were. -/
def Lo (g q C : Nat) (M M' : Mem) : Prop := M.length ≤ M'.length ∧ ∀ (i : Nat) s, i < C → i ≠ g → i ≠ q → M[i]? = some s → M'[i]? = some s
theorem Lo.refl (g q C : Nat) (M : Mem) : Lo g q C M M := ⟨Nat.le_refl _, fun _ _ _ _ _ h => h⟩
theorem Lo.grow {g q C : Nat} {M M' M'' : Mem} (h : Lo g q C M M') (h' : Grow g M' M'') : Lo g q C M M'' := ⟨Nat.le_trans h.1 h'.1, fun i s a b c hs => h'.2 i s b (h.2 i s a b c hs)⟩
theorem Lo.same {g q C : Nat} {M M' M'' : Mem} (h : Lo g q C M M') (h' : Same C M' M'') : Lo g q C M M'' := ⟨Nat.le_trans h.1 h'.1, fun i s a b c hs => h'.2 i s a (h.2 i s a b c hs)⟩
theorem Lo.set {g q C : Nat} {M M' : Mem} {s : Slot} (h : Lo g q C M M') : Lo g q C M (M'.set q s) := ⟨by simpa using h.1, fun i t a b c ht => by rw [List.getElem?_set_ne (Ne.symm c)]; exact h.2 i t a b c ht⟩
theorem Lo.set' {g q C j : Nat} {M M' : Mem} {s : Slot} (h : Lo g q C M M') (hj : C ≤ j) : Lo g q C M (M'.set j s) := ⟨by simpa using h.1, fun i t a b c ht => by rw [List.getElem?_set_ne (by omega)]; exact h.2 i t a b c ht⟩
theorem Lo.to_grow {g q C : Nat} {M0 M M' : Mem} (h : Lo g q C M M') (h0 : Grow g M0 M) (hq : M0.length ≤ q) (hC : M0.length ≤ C) : Grow g M0 M' := ⟨Nat.le_trans h0.1 h.1, fun i s a hs => by
  have := (List.getElem?_eq_some_iff.1 hs).1
  exact h.2 i s (by omega) a (by omega) (h0.2 i s a hs)⟩
theorem TabA.low {B B' : Nat} {M : Mem} {v : Value} {ts : List (List Int)} (h : TabA B M v ts) (hb : B' ≤ B) : TabA B' M v ts := by
  obtain ⟨us, h1, h2, h3⟩ := h
  exact ⟨us, h1.low hb, h2, fun i hi => ⟨(h3 i hi).1.low hb, (h3 i hi).2⟩⟩
/-- A node that is drawn at place i, behind which n nodes may lie. -/
def NdO (t : Int) (i n : Nat) (x : Node) : Prop := (1 ≤ x.k ∧ x.k ≤ 17) ∧ aB x t = true ∧ (x.from_.length : Int) = el arityL x.k.toNat ∧ (∀ f, f ∈ x.from_ → 0 ≤ f ∧ f < n) ∧ (x.k ≠ 6 → ∀ f, f ∈ x.from_ → f < i) ∧ (x.k = 17 → 1 ≤ x.b ∧ x.b ≤ 3) ∧ (x.k ≠ 17 → x.b = 0) ∧ (x.k = 1 → x.a ≤ 2)
theorem Keeps.sameB {M M' : Mem} {B : Nat} (h : Keeps M M') : Same B M M' := ⟨h.len, fun i s _ hs => h.get hs⟩
theorem NdO.mono {t : Int} {i n n' : Nat} {x : Node} (h : NdO t i n x) (hn : n ≤ n') : NdO t i n' x := by
  obtain ⟨a, b, c, d, e⟩ := h
  exact ⟨a, b, c, fun f hf => ⟨(d f hf).1, by have := (d f hf).2; omega⟩, e⟩
theorem aB_eq {x : Node} {z a : Int} {t : Int} (h1 : x.k = z) (h2 : x.a = a) : aB x t = aB ⟨z, a, 0, []⟩ t := by
  unfold aB
  subst h1; subst h2
  rfl
theorem Lo.acc {α : Type} {w : Nat} {R : RecV α w} {e : TypeId} {g q C D : Nat} {M M' : Mem} {v : Value} {l : List α} (hL : Lo g q C M M') (h : Acc R e D M v l) (h1 : g < D) (h2 : q < D) (h3 : M.length ≤ C) : Acc R e D M' v l := by
  obtain ⟨A, n, c, rfl, e2, e3⟩ := h
  refine ⟨A, n, c, rfl, e2, e3.imp id fun ⟨id, t, a1, a2, a3⟩ => ⟨id, t, a1, a2, ?_⟩⟩
  have := (List.getElem?_eq_some_iff.1 a3).1
  exact hL.2 _ _ (by omega) (by omega) (by omega) a3
theorem arity_nn {z : Int} (hz : 1 ≤ z ∧ z ≤ 17) : 0 ≤ el arityL z.toNat ∧ el arityL z.toNat ≤ 3 := by
  obtain ⟨n, rfl⟩ := Int.eq_ofNat_of_zero_le (show 0 ≤ z by omega)
  have : n = 1 ∨ n = 2 ∨ n = 3 ∨ n = 4 ∨ n = 5 ∨ n = 6 ∨ n = 7 ∨ n = 8 ∨ n = 9 ∨ n = 10 ∨ n = 11 ∨ n = 12 ∨ n = 13 ∨ n = 14 ∨ n = 15 ∨ n = 16 ∨ n = 17 := by omega
  rcases this with h | h | h | h | h | h | h | h | h | h | h | h | h | h | h | h | h <;> (subst h; decide)
/-- A node in a box of its own, and its list of inputs. -/
structure XI (g B xq : Nat) (M5 M' : Mem) (x : Node) (u : Value) (k' : Nat) : Prop where
  box : M'[xq]? = some (.live ⟨[iv x.k, iv x.a, iv x.b, u], true, true, 138, 4⟩)
  acc : Acc intR 2 M5.length M' u x.from_
  apart : Apart u xq
  low : M5.length ≤ xq
  src : Src g B M' k'
  grow : Grow g M5 M'
/-- What l07Draw gives. -/
def PaR (g B k : Nat) (M : Mem) (r : Value) (M' : Mem) : Prop := ∃ (p : Patch) (us : List Value) (k' : Nat), r = .agg us.toArray ∧ patchP.rd M.length M'.length M' p us ∧ patB p = true ∧ p.inp = 3 ∧ p.outs.length = 1 ∧ k' ≤ k + 2000 ∧ Src g B M' k' ∧ Grow g M M'
/-- The state of l07Draw's first loop. -/
structure PaI (g B q C : Nat) (tv kv ov : Value) (t : Int) (M3 M' : Mem) (ns : List Node) (v : Value) (k' : Nat) : Prop where
  lo : Lo g q C M3 M'
  box : M'[q]? = some (.live ⟨[iv 3, tv, v, ov], true, true, 48, 4⟩)
  nodes : DrN C M' v ns
  ok : ∀ i, i < ns.length → NdO t i ns.length (el ns i)
  src : Src g B M' k'
theorem one_b {M : Mem} {b g k B : Nat} (m : Int) (h : Src g B M k) (hb : b ≤ g) (hk : k + 2 ≤ 1099511627776) (hm : m ≤ 1099511627776) :
    Ctr Try.prog b 69 [.pointer (some ⟨g, 0, none⟩), iv m] M fun r M' => ∃ (x : Bool) (k' : Nat), r = .bool x ∧ k' ≤ k + 2 ∧ Src g B M' k' ∧ UpdS g M M' := by
  first | (refine ctr_fn Try.func69 rfl Try.ntmps69 Try.results69 rfl rfl (by simp) ?_) | (refine ctr_fnC Try.func69 rfl Try.ntmps69 Try.results69 rfl (by simp) ?_)
  simp
  refine awCall_ctr (h.pick m hb hk hm) ?_
  rintro r M1 ⟨x, k1, rfl, x0, x1, hk1, h1, u1⟩
  simp
  exact ⟨by omega, k1, hk1, h1, u1⟩
set_option maxHeartbeats 4000000 in
theorem l07Draw_b {M : Mem} {b g k B : Nat} (lin : Bool) (h : Src g B M k) (hb : b ≤ g) (hB : B ≤ M.length) (hk : k ≤ 100000) :
    Ctr Try.prog b 68 [.pointer (some ⟨g, 0, none⟩), iv 3, iv 1, iv 7, .bool lin] M fun r M' => PaR g B k M r M' := by
  have hg := h.lt
  first | (refine ctr_fn Try.func68 rfl Try.ntmps68 Try.results68 rfl rfl (by simp) ?_) | (refine ctr_fnC Try.func68 rfl Try.ntmps68 Try.results68 rfl (by simp) ?_)
  have hfill : Instr.fill (fun x => [(0, 1), (1, 1), (2, 1), (3, 1)][x]?) #[iv 0, Value.slice none 0 0, Value.slice none 0 0, Value.slice none 0 0] [(0, iv 3), (3, .slice (some ⟨M.length + 1, 0, none⟩) 0 0)] = some #[iv 3, Value.slice none 0 0, Value.slice none 0 0, .slice (some ⟨M.length + 1, 0, none⟩) 0 0] := by rfl
  simp [hfill]
  obtain ⟨M0, hM0⟩ : ∃ M0 : Mem, M0 = M ++ [Slot.live ⟨[iv 0, Value.slice none 0 0, Value.slice none 0 0, Value.slice none 0 0], true, true, 48, 4⟩, .live ⟨[], true, true, 2, 1⟩, .live ⟨[iv 0, Value.slice none 0 0, Value.slice none 0 0, Value.slice none 0 0], true, true, 48, 4⟩] := ⟨_, rfl⟩
  rw [← hM0]
  have g0 : Grow g M M0 := by rw [hM0]; exact Grow.app _ _ _
  have h0 : Src g B M0 k := by rw [hM0]; exact h.app _
  have l0 : M0.length = M.length + 3 := by rw [hM0]; simp
  have a0 : M0[M.length]? = some (.live ⟨[iv 0, Value.slice none 0 0, Value.slice none 0 0, Value.slice none 0 0], true, true, 48, 4⟩) := by rw [hM0]; simp
  have a1 : M0[M.length + 1]? = some (.live ⟨[], true, true, 2, 1⟩) := by rw [hM0]; simp
  have a2 : M0[M.length + 2]? = some (.live ⟨[iv 0, Value.slice none 0 0, Value.slice none 0 0, Value.slice none 0 0], true, true, 48, 4⟩) := by rw [hM0]; simp
  clear hM0
  obtain ⟨q, hq⟩ : ∃ q, q = M.length + 2 := ⟨_, rfl⟩
  rw [← hq] at a2 ⊢
  have p0 := put_whole (b := b) (vs := [iv 3, Value.slice none 0 0, Value.slice none 0 0, .slice (some ⟨M.length + 1, 0, none⟩) 0 0]) a2 (by omega) rfl (by simp)
  simp [p0]
  obtain ⟨M1, hM1⟩ : ∃ M1 : Mem, M1 = M0.set q (.live ⟨[iv 3, Value.slice none 0 0, Value.slice none 0 0, .slice (some ⟨M.length + 1, 0, none⟩) 0 0], true, true, 48, 4⟩) := ⟨_, rfl⟩
  rw [← hM1]
  have g1 : Grow g M M1 := by rw [hM1]; exact g0.set (by omega)
  have h1 : Src g B M1 k := by rw [hM1]; exact h0.same (Same.set (by omega))
  have l1 : M1.length = M.length + 3 := by rw [hM1]; simp [l0]
  have b0 : M1[M.length]? = some (.live ⟨[iv 0, Value.slice none 0 0, Value.slice none 0 0, Value.slice none 0 0], true, true, 48, 4⟩) := by rw [hM1, List.getElem?_set_ne (by omega)]; exact a0
  have b1 : M1[M.length + 1]? = some (.live ⟨[], true, true, 2, 1⟩) := by rw [hM1, List.getElem?_set_ne (by omega)]; exact a1
  have b2 : M1[q]? = some (.live ⟨[iv 3, Value.slice none 0 0, Value.slice none 0 0, .slice (some ⟨M.length + 1, 0, none⟩) 0 0], true, true, 48, 4⟩) := by rw [hM1, List.getElem?_set_self (by omega)]
  clear hM1 p0 a0 a1 a2 h0 g0 l0
  refine awCond_join (fun T' M2 => ∃ (ts : List (List Int)) (tv : Value) (k2 : Nat), k2 ≤ k + 200 ∧ Src g B M2 k2 ∧ Grow g M M2 ∧ M.length + 3 ≤ M2.length ∧ M2[M.length]? = some (.live ⟨[iv 0, Value.slice none 0 0, Value.slice none 0 0, Value.slice none 0 0], true, true, 48, 4⟩) ∧ M2[M.length + 1]? = some (.live ⟨[], true, true, 2, 1⟩) ∧
      M2[q]? = some (.live ⟨[iv 3, tv, Value.slice none 0 0, .slice (some ⟨M.length + 1, 0, none⟩) 0 0], true, true, 48, 4⟩) ∧ TabA (M.length + 3) M2 tv ts ∧ (lin = false → 1 ≤ ts.length) ∧ ts.length ≤ 2 ∧ (∀ x, x ∈ ts → tableB x = true) ∧
      look T' 0 = some (.pointer (some ⟨g, 0, none⟩)) ∧ look T' 1 = some (iv 3) ∧ look T' 2 = some (iv 1) ∧ look T' 3 = some (iv 7) ∧ look T' 4 = some (.bool lin) ∧ look T' 10 = some (.pointer (some ⟨M.length, 0, none⟩)) ∧ look T' 11 = some (.pointer (some ⟨q, 0, none⟩))) ?_ ?_ ?_
  · intro Q' hQ hl
    simp at hl
    subst hl
    simp
    refine awCall_ctr (l06DrawTables_b h1 hb (by omega) (by omega)) ?_
    rintro tv M2 ⟨ts, k2, hT, hts1, hts2, hts, hk2, h2, g2⟩
    have c2 := g2.2 _ _ (by omega) b2
    have n2 := g2.1
    obtain ⟨A, c, rfl⟩ := hT.one
    have p2 : putCells b M2 q 1 [.slice A ts.length c] = some (M2.set q (.live ⟨[iv 3, .slice A ts.length c, Value.slice none 0 0, .slice (some ⟨M.length + 1, 0, none⟩) 0 0], true, true, 48, 4⟩)) := put_row c2 (by omega) (by simp) rfl
    simp (disch := omega) [p2]
    refine hQ _ _ ⟨ts, _, k2, by omega, h2.same (Same.set (by omega)), (g1.trans g2).set (by omega), by simp; omega, by rw [List.getElem?_set_ne (by omega)]; exact g2.2 _ _ (by omega) b0, by rw [List.getElem?_set_ne (by omega)]; exact g2.2 _ _ (by omega) b1, by rw [List.getElem?_set_self (by omega)], (hT.hi (Hi.set (by omega))).low (by omega), fun _ => hts1, hts2, hts, by simp, by simp, by simp, by simp, by simp, by simp, by simp⟩
  · intro Q' hQ hl
    simp at hl
    subst hl
    simp
    refine hQ _ _ ⟨[], Value.slice none 0 0, k, by omega, h1, g1, by omega, b0, b1, b2, ⟨[], .nil, rfl, fun i hi => by simp at hi⟩, (fun h => by cases h), by simp, fun x h => by simp at h, by simp, by simp, by simp, by simp, by simp, by simp, by simp⟩
  rintro T M2 ⟨ts, tv, k2, hk2, h2, g2, n2, c0, c1, c2, hT, hts1, hts2, hts, t0, t1, t2, t3, t4, t10, t11⟩
  clear b0 b1 b2 h1 g1 l1 hfill
  obtain ⟨At, ct, rfl⟩ := hT.one
  simp [t4]
  refine awCall_ctr ((l07Kinds_b lin).weaken (by omega)) ?_
  rintro kv M3 ⟨kl, hK, kl0, kl20, klz, klin, kk3⟩
  have g3 : Grow g M M3 := g2.trans kk3.grow
  have h3 : Src g B M3 k2 := h2.same (kk3.sameB (B := B))
  simp [t0, t3]
  refine awCall_ctr (h3.pick 7 hb (by omega) (by omega)) ?_
  rintro r M4 ⟨x4, k4, rfl, x40, x41, hk4, h4, u4⟩
  obtain ⟨cn, hcn⟩ := Int.eq_ofNat_of_zero_le (show 0 ≤ 1 + x4 by omega)
  have n3 := kk3.len
  have n4 := u4.1
  simp (disch := omega) [wrap_in, hcn]
  have g4 : Grow g M M4 := g3.trans u4.grow
  have d0 := u4.2 _ _ (by omega) (kk3.get c0)
  have d1 := u4.2 _ _ (by omega) (kk3.get c1)
  have d2 := u4.2 _ _ (by omega) (kk3.get c2)
  have hT4 := (hT.hi ((kk3.grow (g := g)).hi (B := M.length + 3) (by omega))).hi (u4.hi (by omega))
  have hK4 := u4.acc (hK.low (B' := M.length + 3) (by omega)) (by omega)
  clear c0 c1 c2 hT hK h2 h3 g2 g3 u4
  refine awLoop_T (fun m T M' => ∃ (ns : List Node) (v : Value) (k' : Nat), ns.length + m = cn ∧ PaI g B q M4.length (.slice At ts.length ct) kv (.slice (some ⟨M.length + 1, 0, none⟩) 0 0) ts.length M4 M' ns v k' ∧ k' ≤ k4 + 60 * ns.length ∧ look T 13 = some (iv m) ∧ look T 12 = some kv ∧ look T 11 = some (.pointer (some ⟨q, 0, none⟩)) ∧ look T 10 = some (.pointer (some ⟨M.length, 0, none⟩)) ∧ look T 4 = some (.bool lin) ∧ look T 2 = some (iv 1) ∧ look T 1 = some (iv 3) ∧ look T 0 = some (.pointer (some ⟨g, 0, none⟩))) cn
    ⟨[], _, k4, by simp, ⟨.refl _ _ _ _, d2, .nil, fun i hi => by simp at hi, h4⟩, by simp, by simp, by simp, by simp [t11], by simp [t10], by simp [t4], by simp [t2], by simp [t1], by simp [t0]⟩ ?_
  rintro m T M5 ⟨ns, v, k5, hl, hI, hk5, f13, f12, f11, f10, f4, f2, f1, f0⟩
  have n5 := hI.lo.1
  obtain ⟨A, c, rfl⟩ := hI.nodes.one
  have v5 := cell_hr hI.box 2
  have tv5 := cell_hr hI.box 1
  simp at v5 tv5
  rcases m with _ | m
  · have hn1 : 1 ≤ ns.length := by omega
    have hn7 : ns.length ≤ 7 := by omega
    simp (disch := omega) [f13, f11, v5]
    refine awLoop_T (fun m T M' => ∃ (ns' : List Node) (k' j : Nat), j + m = ns.length ∧ ns'.length = ns.length ∧ PaI g B q M4.length (.slice At ts.length ct) kv (.slice (some ⟨M.length + 1, 0, none⟩) 0 0) ts.length M4 M' ns' (.slice A ns.length c) k' ∧ k' ≤ k5 + 4 * j ∧ look T 19 = some (iv j) ∧ look T 18 = some (iv ns.length) ∧ look T 11 = some (.pointer (some ⟨q, 0, none⟩)) ∧ look T 10 = some (.pointer (some ⟨M.length, 0, none⟩)) ∧ look T 2 = some (iv 1) ∧ look T 0 = some (.pointer (some ⟨g, 0, none⟩))) ns.length
      ⟨ns, k5, 0, by simp, rfl, hI, by omega, by simp, by simp, by simp [f11], by simp [f10], by simp [f2], by simp [f0]⟩ ?_
    rintro m T3 M6 ⟨ns', k6, j, hj, hnl, hJ, hk6, i19, i18, i11, i10, i2, i0⟩
    have n6 := hJ.lo.1
    rcases m with _ | m
    · have hjn : ¬ (j : Int) < ns.length := by omega
      have hjn' : ¬ j < ns.length := by omega
      simp (disch := omega) [i19, i18, hjn, hjn', i2]
      have lo6 := hJ.lo
      have z6 : M6[M.length]? = some (.live ⟨[iv 0, Value.slice none 0 0, Value.slice none 0 0, Value.slice none 0 0], true, true, 48, 4⟩) := lo6.2 _ _ (by omega) (by omega) (by omega) d0
      have o6 : M6[M.length + 1]? = some (.live ⟨[], true, true, 2, 1⟩) := lo6.2 _ _ (by omega) (by omega) (by omega) d1
      have hT6 : TabA (M.length + 3) M6 (.slice At ts.length ct) ts := by
        obtain ⟨us, a1, a2, a3⟩ := hT4
        exact ⟨us, lo6.acc a1 (by omega) (by omega) (Nat.le_refl _), a2, fun i hi => ⟨lo6.acc (a3 i hi).1 (by omega) (by omega) (Nat.le_refl _), (a3 i hi).2⟩⟩
      have g6 : Grow g M M6 := lo6.to_grow g4 (by omega) (by omega)
      have hD6 := hJ.nodes
      have box6 := hJ.box
      have src6 := hJ.src
      have ok6 := hJ.ok
      obtain ⟨w, hw⟩ : ∃ w, w = Value.slice A ns.length c := ⟨_, rfl⟩
      rw [← hw] at hD6 box6
      have lq6 := (List.getElem?_eq_some_iff.1 box6).1
      refine awLoop_T (fun m T M' => ((m = 1 ∧ M' = M6) ∨ (m = 0 ∧ ∃ (y : Int) (ov : Value) (k' : Nat), 0 ≤ y ∧ y < ns.length ∧ k' ≤ k6 + 2 ∧ Src g B M' k' ∧ M'[q]? = some (.live ⟨[iv 3, .slice At ts.length ct, w, ov], true, true, 48, 4⟩) ∧ Acc intR 2 (M.length + 1) M' ov [y] ∧ Apart ov q ∧ M'[M.length]? = some (.live ⟨[iv 0, Value.slice none 0 0, Value.slice none 0 0, Value.slice none 0 0], true, true, 48, 4⟩) ∧ TabA (M.length + 3) M' (.slice At ts.length ct) ts ∧ DrN M4.length M' w ns' ∧ Grow g M M')) ∧
        look T 20 = some (iv m) ∧ look T 18 = some (iv ns.length) ∧ look T 11 = some (.pointer (some ⟨q, 0, none⟩)) ∧ look T 10 = some (.pointer (some ⟨M.length, 0, none⟩)) ∧ look T 0 = some (.pointer (some ⟨g, 0, none⟩))) 1 ⟨.inl ⟨rfl, rfl⟩, by simp, by simp [i18], by simp [i11], by simp [i10], by simp [i0]⟩ ?_
      clear i19 i18 i11 i10 i2 i0
      rintro m T4 M7 ⟨h01, i20, i18, i11, i10, i0⟩
      rcases h01 with ⟨rfl, rfl⟩ | ⟨rfl, y, ov, k7, y0, y1, hk7, h7, b7, hA7, ap7, z7, hT7, hD7, g7⟩
      · simp (disch := omega) [i20]
        refine awDraw_C [5, 8, 9, 11] (fun i v => match i with
          | 0 => v = .pointer (some ⟨q, 3, none⟩)
          | 1 => v = .slice (some ⟨M.length + 1, 0, none⟩) 0 0
          | 2 => v = iv ns.length
          | 3 => v = iv (ns.length - 1)
          | 4 => v = .pointer (some ⟨g, 0, none⟩)
          | 6 => ∃ y : Int, v = iv (ns.length - 1 - y) ∧ 0 ≤ y ∧ y < 3
          | 7 => ∃ y : Int, v = iv y ∧ 0 ≤ y ∧ y < ns.length
          | 10 => v = .pointer (some ⟨q, 3, none⟩)
          | _ => True) (fun vs M' => match vs with
          | [] => M' = M7
          | [x] => ∃ (y : Int) (k' : Nat), x = iv y ∧ 0 ≤ y ∧ y < 3 ∧ k' ≤ k6 + 2 ∧ Src g B M' k' ∧ UpdS g M7 M'
          | [x, s] => ∃ (y : Int) (k' : Nat) (M4 : Mem), s = .slice (some ⟨M4.length, 0, none⟩) 1 1 ∧ 0 ≤ y ∧ y < ns.length ∧ k' ≤ k6 + 2 ∧ Src g B M4 k' ∧ UpdS g M7 M4 ∧ M' = M4 ++ [.live ⟨[iv y], true, true, 2, 1⟩]
          | [_, _, ov] => ∃ (y : Int) (k' : Nat), 0 ≤ y ∧ y < ns.length ∧ k' ≤ k6 + 2 ∧ Src g B M' k' ∧ M'[q]? = some (.live ⟨[iv 3, .slice At ts.length ct, w, .slice (some ⟨M.length + 1, 0, none⟩) 0 0], true, true, 48, 4⟩) ∧ Acc intR 2 (M.length + 1) M' ov [y] ∧ Apart ov q ∧ M'[M.length]? = some (.live ⟨[iv 0, Value.slice none 0 0, Value.slice none 0 0, Value.slice none 0 0], true, true, 48, 4⟩) ∧ TabA (M.length + 3) M' (.slice At ts.length ct) ts ∧ DrN M4.length M' w ns' ∧ Grow g M M'
          | [_, _, _, _] => ∃ (y : Int) (ov : Value) (k' : Nat), 0 ≤ y ∧ y < ns.length ∧ k' ≤ k6 + 2 ∧ Src g B M' k' ∧ M'[q]? = some (.live ⟨[iv 3, .slice At ts.length ct, w, ov], true, true, 48, 4⟩) ∧ Acc intR 2 (M.length + 1) M' ov [y] ∧ Apart ov q ∧ M'[M.length]? = some (.live ⟨[iv 0, Value.slice none 0 0, Value.slice none 0 0, Value.slice none 0 0], true, true, 48, 4⟩) ∧ TabA (M.length + 3) M' (.slice At ts.length ct) ts ∧ DrN M4.length M' w ns' ∧ Grow g M M'
          | _ => False) (by kernel_rfl) (by decide +kernel) (by decide +kernel) (by decide +kernel) rfl ?_ ?_ ?_
        · intro i o T' M4' vs K hi ho hΨ hlate hp hf' hK
          have f0' : look T' 0 = some (.pointer (some ⟨g, 0, none⟩)) := by rw [hf' 0 (by decide +kernel)]; simp [i0]
          have f18' : look T' 18 = some (iv ns.length) := by rw [hf' 18 (by decide +kernel)]; simp [i18]
          have f11' : look T' 11 = some (.pointer (some ⟨q, 0, none⟩)) := by rw [hf' 11 (by decide +kernel)]; simp [i11]
          rcases i with _ | _ | _ | _ | _ | _ | _ | _ | _ | _ | _ | _ | i
          · simp at ho; subst ho
            simp [f11']
            exact hK _ rfl
          · obtain ⟨v, d, q1, -⟩ := hp 0 151 (by decide +kernel) rfl
            rw [q1 (by decide)] at d
            have hlt := hlate 2 9 rfl (by decide +kernel)
            have hc : cellAt M4' q 3 = some (.slice (some ⟨M.length + 1, 0, none⟩) 0 0) := by
              match vs, hΨ, hlt with
              | [], hΨ, _ => rw [hΨ]; exact cell_hr box6 3
              | [x], ⟨y, k', _, _, _, _, _, u4⟩, _ => exact cell_hr (u4.2 _ _ (by omega) box6) 3
              | [x, s], ⟨y, k', M4', _, _, _, _, _, u4, e⟩, _ =>
                rw [e]
                exact cell_hr ((keeps_app _).get (u4.2 _ _ (by omega) box6)) 3
            simp at ho; subst ho
            simp [d, hc]
            exact hK _ rfl
          · simp at ho; subst ho
            simp [f18']
            exact hK _ rfl
          · obtain ⟨v, d, q1, -⟩ := hp 2 153 (by decide +kernel) rfl
            rw [q1 (by decide)] at d
            simp at ho; subst ho
            simp (disch := omega) [d, wrap_in]
            exact hK _ rfl
          · simp at ho; subst ho
            simp [f0']
            exact hK _ rfl
          · cases hi
          · obtain ⟨v3, d3, q3, -⟩ := hp 3 154 (by decide +kernel) rfl
            rw [q3 (by decide)] at d3
            obtain ⟨v5, d5, -, q5⟩ := hp 5 156 (by decide +kernel) rfl
            have h5' := q5 0 rfl
            have hlt := hlate 1 8 rfl (by decide +kernel)
            obtain ⟨y, rfl, y0, y1⟩ : ∃ y : Int, v5 = iv y ∧ 0 ≤ y ∧ y < 3 := by
              match vs, hΨ, hlt, h5' with
              | [w], ⟨y, k', e, y0, y1, _⟩, _, h => exact ⟨y, by rw [← e]; simpa using h.symm, y0, y1⟩
            simp at ho; subst ho
            simp (disch := omega) [d3, d5, wrap_in]
            exact hK _ ⟨y, rfl, y0, y1⟩
          · obtain ⟨v6, d6, q6, -⟩ := hp 6 157 (by decide +kernel) rfl
            obtain ⟨y, rfl, y0, y1⟩ := q6 (by decide)
            have hlt := hlate 1 8 rfl (by decide +kernel)
            have hle : M7.length ≤ M4'.length := by
              match vs, hΨ, hlt with
              | [], hΨ, _ => rw [hΨ]; exact Nat.le_refl _
              | [x], ⟨y, k', _, _, _, _, _, u4⟩, _ => exact Nat.le_of_eq u4.1.symm
            simp at ho; subst ho
            simp [d6]
            refine awCall_det' (l00Max_v 0 _) (by omega) ?_
            exact hK _ ⟨max 0 (ns.length - 1 - y), rfl, by omega, by omega⟩
          · cases hi
          · cases hi
          · simp at ho; subst ho
            simp [f11']
            exact hK _ rfl
          · cases hi
          · simp at ho
        · intro i i' o T' M4' vs K hi ho hΨ hlen hp hf' hK
          rcases i with _ | _ | _ | _ | i
          · obtain rfl : 5 = i' := by simpa using hi
            obtain rfl := List.eq_nil_of_length_eq_zero hlen
            obtain ⟨v4, d4, q4, -⟩ := hp 4 155 (by decide +kernel) rfl
            rw [q4 (by decide)] at d4
            replace hΨ : M4' = M7 := hΨ
            subst hΨ
            simp at ho; subst ho
            simp [d4]
            refine awCall_ctr (src6.pick 3 hb (by omega) (by omega)) ?_
            rintro r M13 ⟨y, k13, rfl, y0, y1, hk13, h13, u13⟩
            exact hK _ _ ⟨y, k13, rfl, y0, by omega, hk13, h13, u13⟩
          · obtain rfl : 8 = i' := by simpa using hi
            obtain ⟨x, rfl⟩ : ∃ x, vs = [x] := by match vs, hlen with | [x], _ => exact ⟨x, rfl⟩
            obtain ⟨v7, d7, q7, -⟩ := hp 7 158 (by decide +kernel) rfl
            obtain ⟨z, rfl, z0, z1⟩ := q7 (by decide)
            obtain ⟨y, k', rfl, y0, y1, hk', h4, u4⟩ := hΨ
            simp at ho; subst ho
            simp [d7, fill1]
            exact hK _ _ ⟨z, k', M4', rfl, z0, z1, hk', h4, u4, rfl⟩
          · obtain rfl : 9 = i' := by simpa using hi
            obtain ⟨x, s, rfl⟩ : ∃ x s, vs = [x, s] := by match vs, hlen with | [x, s], _ => exact ⟨x, s, rfl⟩
            obtain ⟨v1, d1, q1, -⟩ := hp 1 152 (by decide +kernel) rfl
            rw [q1 (by decide)] at d1
            obtain ⟨v8, d8, -, q8⟩ := hp 8 159 (by decide +kernel) rfl
            obtain rfl : s = v8 := by simpa using q8 1 rfl
            obtain ⟨y, k', M5', rfl, y0, y1, hk', h4, u4, rfl⟩ := hΨ
            have n4' := u4.1
            have hA0 : Acc intR 2 (M.length + 1) (M5' ++ [.live ⟨[iv y], true, true, 2, 1⟩]) (.slice (some ⟨M.length + 1, 0, none⟩) 0 0) [] := ⟨_, 0, 0, rfl, rfl, .inr ⟨M.length + 1, true, rfl, Nat.le_refl _, (keeps_app _).get (u4.2 _ _ (by omega) o6)⟩⟩
            have apo : ∀ i, i ≠ M.length + 1 → Apart (.slice (some ⟨M.length + 1, 0, none⟩) 0 0) i := fun i hi A n c a e ea => by cases e; cases ea; exact hi
            simp at ho; subst ho
            simp [d1, d8]
            refine (hA0.append2 (a := y) (e := 2) (by_ := 8) (by omega) (by simp; omega) (by omega) (by simp) (by kernel_rfl) (by simp [srcOf, intR]) (by rfl) (by simp) (by unfold maxLen; simp) ?_)
            intro v' M6' a1 a2 a3
            have b6' := a3 q _ (apo _ (by omega)) ((keeps_app _).get (u4.2 _ _ (by omega) box6))
            have z6' := a3 M.length _ (apo _ (by omega)) ((keeps_app _).get (u4.2 _ _ (by omega) z6))
            have hi3 : Hi (M.length + 2) M7 M6' := fun i s hi hs => (a3 i s (apo _ (by omega)) ((keeps_app _).get (u4.2 _ _ (by omega) hs))).1
            exact hK _ _ ⟨y, k', y0, y1, hk', (h4.app _).same (a2.low (by omega)), b6'.1, a1, b6'.2, z6'.1, hT6.hi fun i s hi hs => hi3 i s (by omega) hs, hD6.hi fun i s hi hs => hi3 i s (by omega) hs, ((g6.trans u4.grow).trans (Grow.app g M5' _)).same_from a2 (by omega)⟩
          · obtain rfl : 11 = i' := by simpa using hi
            obtain ⟨x, s, ov, rfl⟩ : ∃ x s w, vs = [x, s, w] := by match vs, hlen with | [x, s, w], _ => exact ⟨x, s, w, rfl⟩
            obtain ⟨v9, d9, -, q9⟩ := hp 9 160 (by decide +kernel) rfl
            obtain rfl : ov = v9 := by simpa using q9 2 rfl
            obtain ⟨v10, d10, q10, -⟩ := hp 10 161 (by decide +kernel) rfl
            rw [q10 (by decide)] at d10
            obtain ⟨y, k', y0, y1, hk', h4, b4, a1, b1, z4, t4', dn4, gr⟩ := hΨ
            have ow : oneV ov = true := by obtain ⟨_, _, _, e, _⟩ := a1; rw [e]; rfl
            have p8 : putCells b M4' q 3 [ov] = some (M4'.set q (.live ⟨[iv 3, .slice At ts.length ct, w, ov], true, true, 48, 4⟩)) := put_row b4 (by omega) (by simp) ow
            have lq4 := (List.getElem?_eq_some_iff.1 b4).1
            obtain ⟨A9, m9, c9, rfl, _⟩ := id a1
            simp at ho; subst ho
            simp [d9, d10, p8]
            exact hK _ _ ⟨y, _, k', y0, y1, hk', h4.same (Same.set (by omega)), set_get lq4, a1.set_apart b1, b1, by rw [List.getElem?_set_ne (by omega)]; exact z4, t4'.hi (Hi.set (by omega)), dn4.hi (Hi.set (by omega)), gr.set (by omega)⟩
          · simp at hi
        · intro T' M4' vs hlen hΨ hp hf'
          have f0' : look T' 0 = some (.pointer (some ⟨g, 0, none⟩)) := by rw [hf' 0 (by decide +kernel)]; simp [i0]
          have f10' : look T' 10 = some (.pointer (some ⟨M.length, 0, none⟩)) := by rw [hf' 10 (by decide +kernel)]; simp [i10]
          have f18' : look T' 18 = some (iv ns.length) := by rw [hf' 18 (by decide +kernel)]; simp [i18]
          have f11' : look T' 11 = some (.pointer (some ⟨q, 0, none⟩)) := by rw [hf' 11 (by decide +kernel)]; simp [i11]
          have f20' : look T' 20 = some (iv 1) := by rw [hf' 20 (by decide +kernel)]; simp [i20]
          obtain ⟨x, s, w', e8, rfl⟩ : ∃ x s w e8, vs = [x, s, w, e8] := by match vs, hlen with | [x, s, w, e8], _ => exact ⟨x, s, w, e8, rfl⟩
          simp (disch := omega) [f20', wrap_in]
          exact lpI 0 (by omega) ⟨.inr ⟨rfl, hΨ⟩, by simp, by simp [f18'], by simp [f11'], by simp [f10'], by simp [f0']⟩
      · have c7 := cells_hr (n := 4) b7 rfl
        simp only at c7
        subst hw
        obtain ⟨Ao, no, co, rfl, -⟩ := id hA7
        have p8 := put_whole (b := b) (vs := [iv 3, .slice At ts.length ct, .slice A ns.length c, .slice Ao no co]) z7 (by omega) rfl (by simp)
        have l7 := (List.getElem?_eq_some_iff.1 z7).1
        have c8 := cells_hr (n := 4) (set_get (s := .live ⟨[iv 3, .slice At ts.length ct, .slice A ns.length c, .slice Ao no co], true, true, 48, 4⟩) l7) rfl
        simp (disch := omega) [i20, i11, i10, c7, p8, c8]
        obtain ⟨Mf, hMf⟩ : ∃ Mf, Mf = M7.set M.length (.live ⟨[iv 3, .slice At ts.length ct, .slice A ns.length c, .slice Ao no co], true, true, 48, 4⟩) := ⟨_, rfl⟩
        have hTf : TabA (M.length + 3) Mf (.slice At ts.length ct) ts := by rw [hMf]; exact hT7.hi (Hi.set (by omega))
        have hDf : DrN M4.length Mf (.slice A ns.length c) ns' := by rw [hMf]; exact hD7.hi (Hi.set (by omega))
        have hAf : Acc intR 2 (M.length + 1) Mf (.slice Ao no co) [y] := by rw [hMf]; exact hA7.set_apart (not_adr fun hd => by have := (hA7.adr_lt hd).1; omega)
        have hSf : Src g B Mf k7 := by rw [hMf]; exact h7.same (Same.set (by omega))
        have hGf : Grow g M Mf := by rw [hMf]; exact g7.set (Nat.le_refl _)
        rw [← hMf]
        clear hMf
        have htl : ∀ x, x ∈ ts → x.length ≤ 16 := fun x hx => by
          have := hts x hx
          unfold tableB at this
          simp only [Bool.and_eq_true, Bool.or_eq_true, decide_eq_true_eq] at this
          omega
        have hfl : ∀ x, x ∈ ns' → x.from_.length ≤ 3 := fun x hx => by
          obtain ⟨i, hi, rfl⟩ := List.getElem_of_mem hx
          rw [el_eq hi]
          obtain ⟨q1, q2, q3, _⟩ := ok6 i hi
          have := arity_nn q1
          omega
        refine ⟨⟨3, ts, ns', [y]⟩, _, k7, rfl, ⟨_, _, _, rfl, (hTf.slv (by omega) fun x hx => by have := htl x hx; omega).wide (by omega) (Nat.le_refl _), (hDf.slv (by omega) fun x hx => by have := hfl x hx; omega).wide (by omega) (Nat.le_refl _), (hAf.slv (by simp)).wide (by omega) (Nat.le_refl _)⟩, patB_low ?_ ?_, rfl, rfl, by omega, hSf, hGf⟩
        · unfold formB tablesB idxB
          simp only [Bool.and_eq_true, decide_eq_true_eq, List.all_eq_true]
          refine ⟨⟨⟨⟨⟨by decide, hts, by omega⟩, by omega⟩, by simp⟩, fun z hz => ?_⟩, fun x hx => ?_⟩
          · simp at hz
            subst hz
            exact inB_iff.2 (by omega)
          · obtain ⟨i, hi, rfl⟩ := List.getElem_of_mem hx
            rw [el_eq hi]
            obtain ⟨q1, q2, q3, q4, q5, q6, q7, q8⟩ := ok6 i hi
            unfold nodeF
            rw [nodeB_eq]
            unfold nodeB2 idxB
            simp only [Bool.and_eq_true, decide_eq_true_eq, List.all_eq_true]
            refine ⟨⟨inB_iff.2 q1, q2, q3, fun f hf => inB_iff.2 ?_, ?_⟩, fun f hf => inB_iff.2 ?_, ?_⟩
            · have := q4 f hf; omega
            · by_cases h17 : (el ns' i).k = 17
              · have := q6 h17
                simp only [h17, if_true]
                exact inB_iff.2 (by omega)
              · simp [h17, q7 h17]
            · have := q4 f hf; omega
            · by_cases h1 : (el ns' i).k = 1
              · have := q8 h1
                have e : ¬ (3 : Int) ≤ (el ns' i).a := by omega
                simp [e]
              · simp [h1]
        · intro i hi f hf
          obtain ⟨q1, q2, q3, q4, q5, q6, q7, q8⟩ := ok6 i hi
          unfold waits at hf
          by_cases h6 : (el ns' i).k = 6
          · simp only [h6, if_true] at hf; simp at hf
          · simp only [h6, if_false] at hf
            exact ⟨(q4 f hf).1, q5 h6 f hf⟩
    have hjn : (j : Int) < ns.length := by omega
    have hjn' : j < ns.length := by omega
    rw [aw_seq, aw_seq]
    simp (disch := omega) [i19, i18, hjn, hjn', -aw_seq]
    rw [aw_seq]
    refine awThen_join (fun T' M' => ∃ (ns'' : List Node) (k' : Nat), ns''.length = ns.length ∧ PaI g B q M4.length (.slice At ts.length ct) kv (.slice (some ⟨M.length + 1, 0, none⟩) 0 0) ts.length M4 M' ns'' (.slice A ns.length c) k' ∧ k' ≤ k6 + 4 ∧ look T' 19 = some (iv j) ∧ look T' 18 = some (iv ns.length) ∧ look T' 11 = some (.pointer (some ⟨q, 0, none⟩)) ∧ look T' 10 = some (.pointer (some ⟨M.length, 0, none⟩)) ∧ look T' 2 = some (iv 1) ∧ look T' 0 = some (.pointer (some ⟨g, 0, none⟩))) ?_ ?_
    · intro Q' hQ
      have v6 := cell_hr hJ.box 2
      simp at v6
      obtain ⟨id, c', u, ev, hesz, hid, hcl, hau, hset⟩ := hJ.nodes.at_ (i := j) (by omega)
      injection ev with ev1 ev2 ev3
      subst ev1
      have ck := (cl_cons.1 hcl).1
      have hok := hJ.ok j (by omega)
      by_cases k6' : (el ns' j).k = 6
      · simp (disch := omega) [i19, i11, i0, v6, hjn, hjn', hesz, ck, k6']
        refine awCall_ctr (one_b 2 hJ.src hb (by omega) (by omega)) ?_
        rintro r M7 ⟨o, k7, rfl, hk7, h7, u7⟩
        have hJ7 : PaI g B q M4.length (.slice At ts.length ct) kv (.slice (some ⟨M.length + 1, 0, none⟩) 0 0) ts.length M4 M7 ns' (.slice (some ⟨id, 0, none⟩) ns.length c) k7 := ⟨hJ.lo.grow u7.grow, u7.2 _ _ (by omega) hJ.box, hJ.nodes.hi (u7.hi (by omega)), hJ.ok, h7⟩
        cases o
        · simp
          exact hQ _ _ ⟨ns', k7, hnl, hJ7, by omega, by simp [i19], by simp [i18], by simp [i11], by simp [i10], by simp [i2], by simp [i0]⟩
        · simp
          obtain ⟨id', c'', u2, ev', hesz7, hid7, hcl7, hau7, hset7⟩ := hJ7.nodes.at_ (i := j) (by omega)
          injection ev' with ev1' ev2' ev3'
          injection ev1' with ev1'
          injection ev1' with ev1'
          subst ev1'
          have ar6 : (el ns' j).from_.length = 1 := by have := hok.2.2.1; rw [k6', show el arityL (Int.toNat 6) = 1 from rfl] at this; omega
          have hau7' := hau7
          obtain ⟨Au2, nu2, cu2, rfl, hu2l, hu2r⟩ := hau7'
          rcases hu2r with ⟨_, h0', _⟩ | ⟨uid, tu, rfl, huid, hur⟩
          · omega
          have lu := (List.getElem?_eq_some_iff.1 hur).1
          have c3 : cellAt M7 id (j * 4 + 3) = some (.slice (some ⟨uid, 0, none⟩) nu2 cu2) := hcl7 3 _ rfl
          have hidl : id < M7.length := by
            unfold rowEsz at hesz7
            cases hm : M7[id]? with
            | none => rw [hm] at hesz7; cases hesz7
            | some s => exact (List.getElem?_eq_some_iff.1 hm).1
          refine awDraw_C [8, 10] (fun i v => match i with
            | 0 => v = .pointer (some ⟨q, 2, none⟩)
            | 1 => v = .slice (some ⟨id, 0, none⟩) ns.length c
            | 2 => v = iv j
            | 3 => v = .pointer (some ⟨id, j * 4, none⟩)
            | 4 => v = .pointer (some ⟨id, j * 4 + 3, none⟩)
            | 5 => v = .slice (some ⟨uid, 0, none⟩) nu2 cu2
            | 6 => v = .pointer (some ⟨g, 0, none⟩)
            | 7 => v = iv ns.length
            | 9 => v = .pointer (some ⟨uid, 0, none⟩)
            | _ => True) (fun vs M' => match vs with
            | [] => M' = M7
            | [x] => ∃ (y : Int) (k' : Nat), x = iv y ∧ 0 ≤ y ∧ y < ns.length ∧ k' ≤ k7 + 2 ∧ Src g B M' k' ∧ UpdS g M7 M'
            | [_, _] => ∃ (y : Int) (k' : Nat), k' ≤ k7 + 2 ∧ PaI g B q M4.length (.slice At ts.length ct) kv (.slice (some ⟨M.length + 1, 0, none⟩) 0 0) ts.length M4 M' (ns'.set j ⟨(el ns' j).k, (el ns' j).a, (el ns' j).b, [y]⟩) (.slice (some ⟨id, 0, none⟩) ns.length c) k'
            | _ => False) (by kernel_rfl) (by decide +kernel) (by decide +kernel) (by decide +kernel) rfl ?_ ?_ ?_
          · intro i o T' M4' vs K hi ho hΨ hlate hp hf' hK
            have f0' : look T' 0 = some (.pointer (some ⟨g, 0, none⟩)) := by rw [hf' 0 (by decide +kernel)]; simp [i0]
            have f18' : look T' 18 = some (iv ns.length) := by rw [hf' 18 (by decide +kernel)]; simp [i18]
            have f11' : look T' 11 = some (.pointer (some ⟨q, 0, none⟩)) := by rw [hf' 11 (by decide +kernel)]; simp [i11]
            have f19' : look T' 19 = some (iv j) := by rw [hf' 19 (by decide +kernel)]; simp [i19]
            have row : vs.length ≤ 1 → cellAt M4' q 2 = some (.slice (some ⟨id, 0, none⟩) ns.length c) ∧ rowEsz M4' id = some 4 ∧ cellAt M4' id (j * 4 + 3) = some (.slice (some ⟨uid, 0, none⟩) nu2 cu2) ∧ rowEsz M4' uid = some 1 := fun hle => by
              match vs, hΨ, hle with
              | [], hΨ, _ => rw [hΨ]; exact ⟨cell_hr hJ7.box 2, hesz7, c3, by simp [rowEsz, hur]⟩
              | [w], ⟨y, k', _, _, _, _, _, u4⟩, _ =>
                have ag : Agree (g + 1) M7.length M7 M4' := fun i s a b hs => u4.2 i s (by omega) hs
                exact ⟨cell_hr (u4.2 _ _ (by omega) hJ7.box) 2, ag.esz (by omega) hidl hesz7, ag.cell (by omega) hidl c3, by simp [rowEsz, u4.2 _ _ (by omega) hur]⟩
            rcases i with _ | _ | _ | _ | _ | _ | _ | _ | _ | _ | _ | i
            · simp at ho; subst ho
              simp [f11']
              exact hK _ rfl
            · obtain ⟨v, d, q1, -⟩ := hp 0 136 (by decide +kernel) rfl
              rw [q1 (by decide)] at d
              have hc := (row (hlate 1 10 rfl (by decide +kernel))).1
              simp at ho; subst ho
              simp [d, hc]
              exact hK _ rfl
            · simp at ho; subst ho
              simp [f19']
              exact hK _ rfl
            · obtain ⟨v1, d1, q1, -⟩ := hp 1 137 (by decide +kernel) rfl
              rw [q1 (by decide)] at d1
              obtain ⟨v2, d2, q2, -⟩ := hp 2 138 (by decide +kernel) rfl
              rw [q2 (by decide)] at d2
              have he := (row (hlate 1 10 rfl (by decide +kernel))).2.1
              simp at ho; subst ho
              simp (disch := omega) [d1, d2, he, hjn, hjn']
              exact hK _ rfl
            · obtain ⟨v, d, q1, -⟩ := hp 3 139 (by decide +kernel) rfl
              rw [q1 (by decide)] at d
              simp at ho; subst ho
              simp [d]
              exact hK _ rfl
            · obtain ⟨v, d, q1, -⟩ := hp 4 140 (by decide +kernel) rfl
              rw [q1 (by decide)] at d
              have hc := (row (hlate 1 10 rfl (by decide +kernel))).2.2.1
              simp at ho; subst ho
              simp [d, hc]
              exact hK _ rfl
            · simp at ho; subst ho
              simp [f0']
              exact hK _ rfl
            · simp at ho; subst ho
              simp [f18']
              exact hK _ rfl
            · cases hi
            · obtain ⟨v, d, q1, -⟩ := hp 5 141 (by decide +kernel) rfl
              rw [q1 (by decide)] at d
              have he := (row (hlate 1 10 rfl (by decide +kernel))).2.2.2
              have hu0 : (0 : Int) < nu2 := by omega
              have hu0' : 0 < nu2 := by omega
              simp at ho; subst ho
              simp (disch := omega) [d, he, hu0, hu0']
              exact hK _ rfl
            · cases hi
            · simp at ho
          · intro i i' o T' M4' vs K hi ho hΨ hlen hp hf' hK
            rcases i with _ | _ | i
            · obtain rfl : 8 = i' := by simpa using hi
              obtain rfl := List.eq_nil_of_length_eq_zero hlen
              obtain ⟨v6, d6, q6, -⟩ := hp 6 142 (by decide +kernel) rfl
              rw [q6 (by decide)] at d6
              obtain ⟨v7, d7, q7, -⟩ := hp 7 143 (by decide +kernel) rfl
              rw [q7 (by decide)] at d7
              replace hΨ : M4' = M7 := hΨ
              subst hΨ
              simp at ho; subst ho
              simp [d6, d7]
              refine awCall_ctr (h7.pick ns.length hb (by omega) (by omega)) ?_
              rintro r M13 ⟨y, k13, rfl, y0, y1, hk13, h13, u13⟩
              exact hK _ _ ⟨y, k13, rfl, y0, by omega, hk13, h13, u13⟩
            · obtain rfl : 10 = i' := by simpa using hi
              obtain ⟨w, rfl⟩ : ∃ w, vs = [w] := by match vs, hlen with | [w], _ => exact ⟨w, rfl⟩
              obtain ⟨v8, d8, -, q8⟩ := hp 8 144 (by decide +kernel) rfl
              obtain rfl : w = v8 := by simpa using q8 0 rfl
              obtain ⟨v9, d9, q9, -⟩ := hp 9 145 (by decide +kernel) rfl
              rw [q9 (by decide)] at d9
              obtain ⟨y, k', rfl, y0, y1, hk', h13, u13⟩ := hΨ
              have n13 := u13.1
              have r13 := u13.2 _ _ (by omega) hur
              have p13 : putCells b M4' uid 0 [iv y] = some (M4'.set uid (.live ⟨cellsL intR ((el ns' j).from_.set 0 y), true, tu, 2, 1⟩)) := put_rec (R := intR) (l := (el ns' j).from_) (i := 0) (b := b) (a := y) (off := 0) r13 (by omega) (by omega) (by omega) rfl
              have e1 : (el ns' j).from_.set 0 y = [y] := by
                match hh : (el ns' j).from_, ar6 with
                | [a], _ => rfl
              rw [e1] at p13
              simp at ho; subst ho
              simp [d8, d9, p13]
              have hD := hJ7.nodes.hi (u13.hi (B := M4.length) (by omega))
              obtain ⟨id3, c3', u3, ev3, hesz3, hid3, hcl3, hau3, hset3⟩ := hD.at_ (i := j) (by omega)
              injection ev3 with ev31 _ _
              injection ev31 with ev31
              injection ev31 with ev31
              subst ev31
              have ag : Agree (g + 1) M7.length M7 M4' := fun i s a b hs => u13.2 i s (by omega) hs
              have e3 : cellAt M4' id (j * 4 + 3) = some u3 := hcl3 3 _ rfl
              rw [ag.cell (by omega) hidl c3] at e3
              injection e3 with e3
              subst e3
              refine hK _ _ ⟨y, k', hk', ⟨(hJ7.lo.grow u13.grow).set' huid, by rw [List.getElem?_set_ne (by omega)]; exact u13.2 _ _ (by omega) hJ7.box, hset3 uid tu [y] ⟨_, _, _, rfl, rfl⟩ (by simp [ar6]), fun i hi => ?_, h13.same (Same.set (by omega))⟩⟩
              simp only [List.length_set] at hi ⊢
              by_cases eij : j = i
              · subst eij
                have e2 : el (ns'.set j ⟨(el ns' j).k, (el ns' j).a, (el ns' j).b, [y]⟩) j = ⟨(el ns' j).k, (el ns' j).a, (el ns' j).b, [y]⟩ := by simp [el, show j < ns'.length by omega]
                rw [e2]
                obtain ⟨q1, q2, q3, q4, q5, q6, q7, q8⟩ := hok
                refine ⟨q1, (aB_eq rfl rfl).trans ((aB_eq (x := el ns' j) rfl rfl).symm.trans q2), by rw [← q3, ar6]; rfl, fun f hf => ?_, fun h => absurd k6' h, q6, q7, q8⟩
                simp at hf
                subst hf
                exact ⟨y0, by omega⟩
              · have e2 : el (ns'.set j ⟨(el ns' j).k, (el ns' j).a, (el ns' j).b, [y]⟩) i = el ns' i := by simp [el, List.getElem?_set_ne eij]
                rw [e2]
                exact hJ7.ok i hi
            · simp at hi
          · intro T' M4' vs hlen hΨ hp hf'
            have f0' : look T' 0 = some (.pointer (some ⟨g, 0, none⟩)) := by rw [hf' 0 (by decide +kernel)]; simp [i0]
            have f2' : look T' 2 = some (iv 1) := by rw [hf' 2 (by decide +kernel)]; simp [i2]
            have f10' : look T' 10 = some (.pointer (some ⟨M.length, 0, none⟩)) := by rw [hf' 10 (by decide +kernel)]; simp [i10]
            have f18' : look T' 18 = some (iv ns.length) := by rw [hf' 18 (by decide +kernel)]; simp [i18]
            have f11' : look T' 11 = some (.pointer (some ⟨q, 0, none⟩)) := by rw [hf' 11 (by decide +kernel)]; simp [i11]
            have f19' : look T' 19 = some (iv j) := by rw [hf' 19 (by decide +kernel)]; simp [i19]
            obtain ⟨w, w', rfl⟩ : ∃ w w', vs = [w, w'] := by match vs, hlen with | [w, w'], _ => exact ⟨w, w', rfl⟩
            obtain ⟨y, k', hk', hN⟩ := hΨ
            simp
            exact hQ _ _ ⟨_, k', by simpa using hnl, hN, by omega, f19', f18', f11', f10', f2', f0'⟩
      · simp (disch := omega) [i19, i11, v6, hjn, hjn', hesz, ck, k6']
        exact hQ _ _ ⟨ns', k6, hnl, hJ, by omega, by simp [i19], by simp [i18], by simp [i11], by simp [i10], by simp [i2], by simp [i0]⟩
    rintro T' M7 ⟨ns'', k7, hnl7, hJ7, hk7, j19, j18, j11, j10, j2, j0⟩
    simp (disch := omega) [j19, wrap_in]
    exact lpI m (by omega) ⟨ns'', k7, j + 1, by omega, hnl7, hJ7, by omega, by simp, by simp [j18], by simp [j11], by simp [j10], by simp [j2], by simp [j0]⟩
  have e : (0 : Int) < (m : Int) + 1 := by omega
  rw [aw_seq, aw_seq]
  simp (disch := omega) [f13, e, -aw_seq]
  rw [aw_seq, aw_block, aw_seq]
  simp (disch := omega) [f11, v5, -aw_seq]
  rw [aw_seq]
  simp (disch := omega) [f0, f12, -aw_seq]
  have hK5 : Acc intR 2 (M.length + 3) M5 kv kl := hI.lo.acc hK4 (by omega) (by omega) (Nat.le_refl _)
  obtain ⟨Ak, nk, ck, rfl, hkl, hks, -⟩ := hK5.sl
  refine awCall_ctr (among_s (c := ck) hI.src hb (by omega) hks (fun a e _ => ?_) (by omega) (by omega)) ?_
  · subst e
    have := (hK5.adr_lt ⟨_, _, _, rfl, rfl⟩).1
    omega
  rintro r M6 ⟨kd, k6, rfl, hkd, hk6, h6, u6⟩
  have hkz := klz _ hkd
  have n6 := u6.1
  have lo6 := hI.lo.grow u6.grow
  have ns6 := hI.nodes.hi (u6.hi (B := M4.length) (by omega))
  have box6 := u6.2 _ _ (by omega) hI.box
  have v6 := cell_hr box6 2
  have tv6 := cell_hr box6 1
  simp at v6 tv6
  rw [aw_seq]
  refine awThen_join (fun T' M' => M' = M6 ∧ ∃ z : Int, (1 ≤ z ∧ z ≤ 17) ∧ (z = 13 → 1 ≤ ts.length) ∧ (1 ≤ ns.length ∨ el arityL z.toNat = 0) ∧ look T' 15 = some (iv z) ∧ look T' 14 = some (iv ns.length) ∧ look T' 13 = some (iv (m + 1)) ∧ look T' 12 = some (.slice Ak nk ck) ∧ look T' 11 = some (.pointer (some ⟨q, 0, none⟩)) ∧ look T' 10 = some (.pointer (some ⟨M.length, 0, none⟩)) ∧ look T' 4 = some (.bool lin) ∧ look T' 2 = some (iv 1) ∧ look T' 1 = some (iv 3) ∧ look T' 0 = some (.pointer (some ⟨g, 0, none⟩))) ?_ ?_
  · intro Q' hQ
    have har := l06Arity_s (M := M6) kd (inB_iff.2 hkz)
    have hk13 : kd = 13 → 1 ≤ ts.length := fun h => by
      cases hlin : lin with
      | false => exact hts1 hlin
      | true => exact absurd h (klin hlin _ hkd)
    by_cases z0 : ns.length = 0
    · by_cases k1 : kd = 1
      · subst k1
        simp (disch := omega) [z0, f1]
        refine awCall_det' har (by omega) ?_
        simp [el, arityL]
        exact hQ _ _ ⟨rfl, 1, by omega, by omega, .inr rfl, by simp, by simp [z0], by simp [f13], by simp [f12], by simp [f11], by simp [f10], by simp [f4], by simp [f2], by simp [f1], by simp [f0]⟩
      · simp (disch := omega) [z0, k1]
        refine awCall_det' har (by omega) ?_
        by_cases ha : 0 < el arityL kd.toNat
        · cases hlin : lin
          · subst hlin
            simp [ha, f4]
            exact hQ _ _ ⟨rfl, 2, by omega, by omega, .inr rfl, by simp, by simp [z0], by simp [f13], by simp [f12], by simp [f11], by simp [f10], by simp [f4], by simp [f2], by simp [f1], by simp [f0]⟩
          · subst hlin
            simp [ha, f4]
            exact hQ _ _ ⟨rfl, 1, by omega, by omega, .inr rfl, by simp, by simp [z0], by simp [f13], by simp [f12], by simp [f11], by simp [f10], by simp [f4], by simp [f2], by simp [f1], by simp [f0]⟩
        · have ha' := arity_nn hkz
          simp [ha]
          exact hQ _ _ ⟨rfl, kd, hkz, hk13, .inr (by omega), by simp, by simp [z0], by simp [f13], by simp [f12], by simp [f11], by simp [f10], by simp [f4], by simp [f2], by simp [f1], by simp [f0]⟩
    · by_cases k1 : kd = 1
      · subst k1
        simp (disch := omega) [z0, f1]
        exact hQ _ _ ⟨rfl, 1, by omega, by omega, .inr rfl, by simp, by simp, by simp [f13], by simp [f12], by simp [f11], by simp [f10], by simp [f4], by simp [f2], by simp [f1], by simp [f0]⟩
      · simp (disch := omega) [z0, k1]
        exact hQ _ _ ⟨rfl, kd, hkz, hk13, .inl (by omega), by simp, by simp, by simp [f13], by simp [f12], by simp [f11], by simp [f10], by simp [f4], by simp [f2], by simp [f1], by simp [f0]⟩
  rintro T' M7 ⟨rfl, z, hz, hz13, hza, e15, e14, e13, e12, e11, e10, e4, e2, e1, e0⟩
  rw [aw_seq]
  simp (disch := omega) [e15, e14, e11, e0, tv6, -aw_seq]
  refine awCall_ctr (l06Draw_b z ts.length ns.length h6 hb (by omega) (by omega) hz (fun h => ⟨by have := hz13 h; omega, by omega⟩) (by omega) (by omega)) ?_
  rintro r M8 ⟨a, cc, u, l, k8, rfl, hA8, ha8, ha81, hl8, hf8, hc17, hc0, hk8, h8, g8⟩
  have n8 := g8.1
  obtain ⟨Au, nu, cu, rfl, -, -⟩ := id hA8
  have hput := put_box (b := b) (M := M8) (t := true) (e := 138) (z := 4) (cs := [iv 0, iv 0, iv 0, .slice none 0 0]) (vs := [iv z, iv a, iv cc, .slice Au nu cu]) (by omega) rfl (by simp)
  simp (disch := omega) [hput, -aw_seq]
  rw [aw_seq]
  have hX0 : NdO ts.length ns.length ns.length ⟨z, a, cc, l⟩ := ⟨hz, (aB_eq rfl rfl).trans ha8, hl8, fun f hf => ⟨(hf8 f hf).1, (hf8 f hf).2⟩, fun _ f hf => (hf8 f hf).2, hc17, hc0, fun h => by have := ha81 h; show a ≤ 2; omega⟩
  refine awThen_join (fun T' M' => ∃ (x : Node) (u' : Value) (k' : Nat), XI g B M8.length M7 M' x u' k' ∧ NdO ts.length ns.length ns.length x ∧ x.k = z ∧ k' ≤ k6 + 22 ∧ look T' 16 = some (.pointer (some ⟨M8.length, 0, none⟩)) ∧ look T' 15 = some (iv z) ∧ look T' 14 = some (iv ns.length) ∧ look T' 13 = some (iv (m + 1)) ∧ look T' 12 = some (.slice Ak nk ck) ∧ look T' 11 = some (.pointer (some ⟨q, 0, none⟩)) ∧ look T' 10 = some (.pointer (some ⟨M.length, 0, none⟩)) ∧ look T' 4 = some (.bool lin) ∧ look T' 2 = some (iv 1) ∧ look T' 1 = some (iv 3) ∧ look T' 0 = some (.pointer (some ⟨g, 0, none⟩))) ?_ ?_
  · intro Q' hQ
    have hXI : XI g B M8.length M7 (M8 ++ [.live ⟨[iv z, iv a, iv cc, .slice Au nu cu], true, true, 138, 4⟩]) ⟨z, a, cc, l⟩ (.slice Au nu cu) k8 := ⟨getElem?_snoc_eq, hA8.keeps (keeps_app _), hA8.apart (Nat.le_refl _), n8, h8.app _, g8.trans (Grow.app _ _ _)⟩
    by_cases z1 : z = 1
    · subst z1
      simp (disch := omega) [e15, e0, e1]
      refine awCall_ctr ((h8.app _).pick 3 hb (by omega) (by omega)) ?_
      rintro r M9 ⟨y, k9, rfl, y0, y1, hk9, h9, u9⟩
      have b9 := u9.2 _ _ (by omega) hXI.box
      have n9 := u9.1
      simp at n9
      have p9 : putCells b M9 M8.length 1 [iv y] = some (M9.set M8.length (.live ⟨[iv 1, iv y, iv cc, .slice Au nu cu], true, true, 138, 4⟩)) := put_row b9 (by omega) (by simp) rfl
      simp (disch := omega) [p9]
      refine hQ _ _ ⟨⟨1, y, cc, l⟩, .slice Au nu cu, k9, ⟨set_get (by omega), (u9.acc hXI.acc (by omega)).set_apart hXI.apart, hXI.apart, n8, h9.same (Same.set (by omega)), (hXI.grow.trans u9.grow).set n8⟩, ?_, rfl, by omega, by simp, by simp [e15], by simp [e14], by simp [e13], by simp [e12], by simp [e11], by simp [e10], by simp [e4], by simp [e2], by simp [e1], by simp [e0]⟩
      obtain ⟨q1, q2, q3, q4, q5, q6, q7, q8⟩ := hX0
      exact ⟨q1, by simp [aB, inB_iff]; omega, q3, q4, q5, q6, q7, fun _ => by show y ≤ 2; omega⟩
    · simp (disch := omega) [e15, z1]
      refine hQ _ _ ⟨_, _, k8, hXI, hX0, rfl, by omega, by simp, by simp [e15], by simp [e14], by simp [e13], by simp [e12], by simp [e11], by simp [e10], by simp [e4], by simp [e2], by simp [e1], by simp [e0]⟩
  clear e15 e14 e13 e12 e11 e10 e4 e2 e1 e0 hX0 hput
  rintro T'' M9 ⟨x, u', k9, hX, hO, rfl, hk9, e16, e15, e14, e13, e12, e11, e10, e4, e2, e1, e0⟩
  have n9 := hX.grow.1
  have l9 := (List.getElem?_eq_some_iff.1 hX.box).1
  rw [aw_seq]
  refine awThen_join (fun T' M' => ∃ (x : Node) (u' : Value) (k' : Nat), XI g B M8.length M7 M' x u' k' ∧ NdO ts.length ns.length ns.length x ∧ k' ≤ k6 + 56 ∧ look T' 16 = some (.pointer (some ⟨M8.length, 0, none⟩)) ∧ look T' 13 = some (iv (m + 1)) ∧ look T' 12 = some (.slice Ak nk ck) ∧ look T' 11 = some (.pointer (some ⟨q, 0, none⟩)) ∧ look T' 10 = some (.pointer (some ⟨M.length, 0, none⟩)) ∧ look T' 4 = some (.bool lin) ∧ look T' 2 = some (iv 1) ∧ look T' 1 = some (iv 3) ∧ look T' 0 = some (.pointer (some ⟨g, 0, none⟩))) ?_ ?_
  · intro Q' hQ
    simp (disch := omega) [e0]
    refine awCall_ctr (one_b 3 hX.src hb (by omega) (by omega)) ?_
    rintro r M10 ⟨o, k10, rfl, hk10, h10, u10⟩
    have n10 := u10.1
    have hX10 : XI g B M8.length M7 M10 x u' k10 := ⟨u10.2 _ _ (by omega) hX.box, u10.acc hX.acc (by omega), hX.apart, hX.low, h10, hX.grow.trans u10.grow⟩
    by_cases ho : o = false
    · subst ho
      simp (disch := omega)
      exact hQ _ _ ⟨x, u', k10, hX10, hO, by omega, by simp [e16], by simp [e13], by simp [e12], by simp [e11], by simp [e10], by simp [e4], by simp [e2], by simp [e1], by simp [e0]⟩
    obtain rfl : o = true := by simpa using ho
    by_cases z0 : ns.length = 0
    · simp (disch := omega) [e14, z0]
      exact hQ _ _ ⟨x, u', k10, hX10, hO, by omega, by simp [e16], by simp [e13], by simp [e12], by simp [e11], by simp [e10], by simp [e4], by simp [e2], by simp [e1], by simp [e0]⟩
    have z0' : 0 < ns.length := by omega
    by_cases x1 : x.k = 1
    · simp (disch := omega) [e14, e15, z0', x1]
      exact hQ _ _ ⟨x, u', k10, hX10, hO, by omega, by simp [e16], by simp [e13], by simp [e12], by simp [e11], by simp [e10], by simp [e4], by simp [e2], by simp [e1], by simp [e0]⟩
    by_cases x2 : x.k = 2
    · simp (disch := omega) [e14, e15, z0', x2]
      exact hQ _ _ ⟨x, u', k10, hX10, hO, by omega, by simp [e16], by simp [e13], by simp [e12], by simp [e11], by simp [e10], by simp [e4], by simp [e2], by simp [e1], by simp [e0]⟩
    have tv10 := cell_hr (hX10.grow.2 _ _ (by omega) box6) 1
    simp at tv10
    simp (disch := omega) [e14, e15, z0', x1, x2, e11, e0, tv10]
    refine awCall_ctr (l06Draw_b x.k ts.length 1 h10 hb (by omega) (by omega) hz (fun h => ⟨by have := hz13 h; omega, by omega⟩) (.inl (by omega)) (by omega)) ?_
    rintro r M11 ⟨a2, c2, u2, l2, k11, rfl, hA11, ha11, ha111, hl11, hf11, hc172, hc02, hk11, h11, g11⟩
    have n11 := g11.1
    have b11 := g11.2 _ _ (by omega) hX10.box
    have ou2 : oneV u2 = true := by obtain ⟨_, _, _, e, _⟩ := hA11; rw [e]; rfl
    have p11 := put_whole (b := b) (vs := [iv x.k, iv a2, iv c2, u2]) b11 (by omega) rfl (by simp [ou2])
    have ap2 : Apart u2 M8.length := not_adr fun hd => by have := (hA11.adr_lt hd).1; omega
    obtain ⟨A2, n2', c2', rfl, hn2, hA2r⟩ := id hA11
    simp (disch := omega) [p11, e16]
    have ar3 := arity_nn hz
    have hns7 : ns.length ≤ 7 := by omega
    refine awLoop_T (fun m' T M' => ∃ (l : List Int) (k' j : Nat), j + m' = l2.length ∧ l.length = l2.length ∧ XI g B M8.length M7 M' ⟨x.k, a2, c2, l⟩ (.slice A2 n2' c2') k' ∧ (∀ f, f ∈ l → 0 ≤ f ∧ f < ns.length) ∧ k' ≤ k11 + 2 * j ∧ look T 17 = some (iv j) ∧ look T 16 = some (.pointer (some ⟨M8.length, 0, none⟩)) ∧ look T 14 = some (iv ns.length) ∧ look T 13 = some (iv (m + 1)) ∧ look T 12 = some (.slice Ak nk ck) ∧ look T 11 = some (.pointer (some ⟨q, 0, none⟩)) ∧ look T 10 = some (.pointer (some ⟨M.length, 0, none⟩)) ∧ look T 4 = some (.bool lin) ∧ look T 2 = some (iv 1) ∧ look T 1 = some (iv 3) ∧ look T 0 = some (.pointer (some ⟨g, 0, none⟩))) l2.length
      ⟨l2, k11, 0, by simp, rfl, ⟨set_get (by omega), (hA11.low (by omega)).set_apart ap2, ap2, hX.low, h11.same (Same.set (by omega)), (hX10.grow.trans g11).set hX.low⟩, fun f hf => ⟨(hf11 f hf).1, by have := (hf11 f hf).2; omega⟩, by omega, by simp, by simp [e16], by simp [e14], by simp [e13], by simp [e12], by simp [e11], by simp [e10], by simp [e4], by simp [e2], by simp [e1], by simp [e0]⟩ ?_
    rintro m' T3 M12 ⟨l, k12, j, hj, hll, hY, hfl, hk12, i17, i16, i14, i13, i12, i11, i10, i4, i2, i1, i0⟩
    have n12 := hY.grow.1
    have y12 := cell_hr hY.box 3
    simp at y12
    rcases m' with _ | m'
    · have hjl : ¬ (j : Int) < n2' := by omega
      have hjl' : ¬ j < n2' := by omega
      simp (disch := omega) [i17, i16, y12, hjl, hjl']
      refine hQ _ _ ⟨_, _, k12, hY, ⟨hz, (aB_eq rfl rfl).trans ha11, by show (l.length : Int) = _; rw [hll]; exact hl11, hfl, fun _ f hf => (hfl f hf).2, hc172, hc02, fun h => absurd h x1⟩, by omega, by simp [i16], by simp [i13], by simp [i12], by simp [i11], by simp [i10], by simp [i4], by simp [i2], by simp [i1], by simp [i0]⟩
    · have hjl : (j : Int) < n2' := by omega
      have hjl' : j < n2' := by omega
      simp (disch := omega) [i17, i16, y12, hjl, hjl']
      obtain ⟨_, _, _, e3, hYl, hYr⟩ := id hY.acc
      injection e3 with e31 e32 e33
      subst e31; subst e32; subst e33
      rcases hYr with ⟨_, h0', _⟩ | ⟨id3, t3', rfl, hid3, hr3⟩
      · omega
      have ne3 : id3 ≠ M8.length := fun h => hY.apart _ _ _ _ rfl rfl h.symm
      refine awDraw_C [6, 10] (fun i v => match i with
        | 0 => v = .pointer (some ⟨M8.length, 3, none⟩)
        | 1 => v = .slice (some ⟨id3, 0, none⟩) n2' c2'
        | 2 => v = iv j
        | 3 => v = iv ns.length
        | 4 => v = iv (ns.length - 1)
        | 5 => v = .pointer (some ⟨g, 0, none⟩)
        | 7 => ∃ y : Int, v = iv (ns.length - 1 - y) ∧ 0 ≤ y ∧ y < 2
        | 8 => ∃ y : Int, v = iv y ∧ 0 ≤ y ∧ y < ns.length
        | 9 => v = .pointer (some ⟨id3, j, none⟩)
        | _ => True) (fun vs M' => match vs with
        | [] => M' = M12
        | [x] => ∃ (y : Int) (k' : Nat), x = iv y ∧ 0 ≤ y ∧ y < 2 ∧ k' ≤ k12 + 2 ∧ Src g B M' k' ∧ UpdS g M12 M'
        | [_, _] => ∃ (y : Int) (k' : Nat), 0 ≤ y ∧ y < ns.length ∧ k' ≤ k12 + 2 ∧ XI g B M8.length M7 M' ⟨x.k, a2, c2, l.set j y⟩ (.slice (some ⟨id3, 0, none⟩) n2' c2') k'
        | _ => False) (by kernel_rfl) (by decide +kernel) (by decide +kernel) (by decide +kernel) rfl ?_ ?_ ?_
      · intro i o T' M4' vs K hi ho hΨ hlate hp hf' hK
        have f0' : look T' 0 = some (.pointer (some ⟨g, 0, none⟩)) := by rw [hf' 0 (by decide +kernel)]; simp [i0]
        have f14' : look T' 14 = some (iv ns.length) := by rw [hf' 14 (by decide +kernel)]; simp [i14]
        have f16' : look T' 16 = some (.pointer (some ⟨M8.length, 0, none⟩)) := by rw [hf' 16 (by decide +kernel)]; simp [i16]
        have f17' : look T' 17 = some (iv j) := by rw [hf' 17 (by decide +kernel)]; simp [i17]
        have row : vs.length ≤ 1 → M4'[M8.length]? = some (.live ⟨[iv x.k, iv a2, iv c2, .slice (some ⟨id3, 0, none⟩) n2' c2'], true, true, 138, 4⟩) ∧ rowEsz M4' id3 = some 1 ∧ M12.length ≤ M4'.length := fun hle => by
          match vs, hΨ, hle with
          | [], hΨ, _ => rw [hΨ]; exact ⟨hY.box, by simp [rowEsz, hr3], Nat.le_refl _⟩
          | [w], ⟨y, k', _, _, _, _, _, u4⟩, _ => exact ⟨u4.2 _ _ (by omega) hY.box, by simp [rowEsz, u4.2 _ _ (by omega) hr3], Nat.le_of_eq u4.1.symm⟩
        rcases i with _ | _ | _ | _ | _ | _ | _ | _ | _ | _ | _ | i
        · simp at ho; subst ho
          simp [f16']
          exact hK _ rfl
        · obtain ⟨v, d, q1, -⟩ := hp 0 101 (by decide +kernel) rfl
          rw [q1 (by decide)] at d
          have hc := cell_hr (row (hlate 1 10 rfl (by decide +kernel))).1 3
          simp at hc
          simp at ho; subst ho
          simp [d, hc]
          exact hK _ rfl
        · simp at ho; subst ho
          simp [f17']
          exact hK _ rfl
        · simp at ho; subst ho
          simp [f14']
          exact hK _ rfl
        · obtain ⟨v, d, q1, -⟩ := hp 3 104 (by decide +kernel) rfl
          rw [q1 (by decide)] at d
          simp at ho; subst ho
          simp (disch := omega) [d, wrap_in]
          exact hK _ rfl
        · simp at ho; subst ho
          simp [f0']
          exact hK _ rfl
        · cases hi
        · obtain ⟨v4, d4, q4, -⟩ := hp 4 105 (by decide +kernel) rfl
          rw [q4 (by decide)] at d4
          obtain ⟨v6, d6, -, q6⟩ := hp 6 107 (by decide +kernel) rfl
          have h6' := q6 0 rfl
          have hlt := hlate 1 10 rfl (by decide +kernel)
          obtain ⟨y, rfl, y0, y1⟩ : ∃ y : Int, v6 = iv y ∧ 0 ≤ y ∧ y < 2 := by
            match vs, hΨ, hlt, h6' with
            | [w], ⟨y, k', e, y0, y1, _⟩, _, h => exact ⟨y, by rw [← e]; simpa using h.symm, y0, y1⟩
          simp at ho; subst ho
          simp (disch := omega) [d4, d6, wrap_in]
          exact hK _ ⟨y, rfl, y0, y1⟩
        · obtain ⟨v7, d7, q7, -⟩ := hp 7 108 (by decide +kernel) rfl
          obtain ⟨y, rfl, y0, y1⟩ := q7 (by decide)
          simp at ho; subst ho
          simp [d7]
          have hle := (row (hlate 1 10 rfl (by decide +kernel))).2.2
          refine awCall_det' (l00Max_v 0 _) (by omega) ?_
          exact hK _ ⟨max 0 (ns.length - 1 - y), rfl, by omega, by omega⟩
        · obtain ⟨v1, d1, q1, -⟩ := hp 1 102 (by decide +kernel) rfl
          rw [q1 (by decide)] at d1
          obtain ⟨v2, d2, q2, -⟩ := hp 2 103 (by decide +kernel) rfl
          rw [q2 (by decide)] at d2
          have he := (row (hlate 1 10 rfl (by decide +kernel))).2.1
          simp at ho; subst ho
          simp (disch := omega) [d1, d2, he, hjl, hjl']
          exact hK _ rfl
        · cases hi
        · simp at ho
      · intro i i' o T' M4' vs K hi ho hΨ hlen hp hf' hK
        rcases i with _ | _ | i
        · obtain rfl : 6 = i' := by simpa using hi
          obtain rfl := List.eq_nil_of_length_eq_zero hlen
          obtain ⟨v5, d5, q5, -⟩ := hp 5 106 (by decide +kernel) rfl
          rw [q5 (by decide)] at d5
          replace hΨ : M4' = M12 := hΨ
          subst hΨ
          simp at ho; subst ho
          simp [d5]
          refine awCall_ctr (hY.src.pick 2 hb (by omega) (by omega)) ?_
          rintro r M13 ⟨y, k13, rfl, y0, y1, hk13, h13, u13⟩
          exact hK _ _ ⟨y, k13, rfl, y0, by omega, hk13, h13, u13⟩
        · obtain rfl : 10 = i' := by simpa using hi
          obtain ⟨w, rfl⟩ : ∃ w, vs = [w] := by match vs, hlen with | [w], _ => exact ⟨w, rfl⟩
          obtain ⟨v8, d8, q8, -⟩ := hp 8 109 (by decide +kernel) rfl
          obtain ⟨y, rfl, y0, y1⟩ := q8 (by decide)
          obtain ⟨v9, d9, q9, -⟩ := hp 9 110 (by decide +kernel) rfl
          rw [q9 (by decide)] at d9
          obtain ⟨y', k', rfl, _, _, hk', h13, u13⟩ := hΨ
          have r13 := u13.2 _ _ (by omega) hr3
          have p13 := put_rec (R := intR) (l := l) (i := j) (b := b) (a := y) (off := j) r13 (by omega) (by omega) (by omega) rfl
          simp at ho; subst ho
          have p13' : putCells b M4' id3 j [iv y] = some (M4'.set id3 (.live ⟨cellsL intR (l.set j y), true, t3', 2, 1⟩)) := p13
          simp [d8, d9, p13']
          refine hK _ _ ⟨y, k', y0, y1, hk', ⟨by rw [List.getElem?_set_ne ne3]; exact u13.2 _ _ (by omega) hY.box, ⟨_, _, _, rfl, by simpa using hYl, .inr ⟨id3, t3', rfl, hid3, set_get (by have := (List.getElem?_eq_some_iff.1 r13).1; omega)⟩⟩, hY.apart, hY.low, h13.same (Same.set (by omega)), (hY.grow.trans u13.grow).set hid3⟩⟩
        · simp at hi
      · intro T' M4' vs hlen hΨ hp hf'
        have f0' : look T' 0 = some (.pointer (some ⟨g, 0, none⟩)) := by rw [hf' 0 (by decide +kernel)]; simp [i0]
        have f1' : look T' 1 = some (iv 3) := by rw [hf' 1 (by decide +kernel)]; simp [i1]
        have f2' : look T' 2 = some (iv 1) := by rw [hf' 2 (by decide +kernel)]; simp [i2]
        have f4' : look T' 4 = some (.bool lin) := by rw [hf' 4 (by decide +kernel)]; simp [i4]
        have f10' : look T' 10 = some (.pointer (some ⟨M.length, 0, none⟩)) := by rw [hf' 10 (by decide +kernel)]; simp [i10]
        have f11' : look T' 11 = some (.pointer (some ⟨q, 0, none⟩)) := by rw [hf' 11 (by decide +kernel)]; simp [i11]
        have f12' : look T' 12 = some (.slice Ak nk ck) := by rw [hf' 12 (by decide +kernel)]; simp [i12]
        have f13' : look T' 13 = some (iv (m + 1)) := by rw [hf' 13 (by decide +kernel)]; simp [i13]
        have f14' : look T' 14 = some (iv ns.length) := by rw [hf' 14 (by decide +kernel)]; simp [i14]
        have f16' : look T' 16 = some (.pointer (some ⟨M8.length, 0, none⟩)) := by rw [hf' 16 (by decide +kernel)]; simp [i16]
        have f17' : look T' 17 = some (iv j) := by rw [hf' 17 (by decide +kernel)]; simp [i17]
        obtain ⟨w, w', rfl⟩ : ∃ w w', vs = [w, w'] := by match vs, hlen with | [w, w'], _ => exact ⟨w, w', rfl⟩
        obtain ⟨y, k', y0, y1, hk', hN⟩ := hΨ
        simp (disch := omega) [f17', wrap_in]
        refine lpI m' (by omega) ⟨l.set j y, k', j + 1, by omega, by simpa using hll, hN, fun f hf => ?_, by omega, by simp, by simp [f16'], by simp [f14'], by simp [f13'], by simp [f12'], by simp [f11'], by simp [f10'], by simp [f4'], by simp [f2'], by simp [f1'], by simp [f0']⟩
        rcases List.mem_or_eq_of_mem_set hf with hf | rfl
        · exact hfl f hf
        · exact ⟨y0, y1⟩
  clear e16 e15 e14 e13 e12 e11 e10 e4 e2 e1 e0 hX hO hk9 n9 l9
  rintro T' M10 ⟨x, u', k10, hX, hO, hk10, e16, e13, e12, e11, e10, e4, e2, e1, e0⟩
  have n10 := hX.grow.1
  have l10 := (List.getElem?_eq_some_iff.1 hX.box).1
  have box10 := hX.grow.2 _ _ (by omega) box6
  have v10 := cell_hr box10 2
  have c10 := cells_hr (n := 4) hX.box rfl
  have hX' := hX.acc
  obtain ⟨Ax, nx, cx, rfl, hnx, -⟩ := hX'
  have hfl : Instr.fill (fun i => some (i * 4, 4)) (zrow [iv 0, iv 0, iv 0, Value.slice none 0 0] 1).toArray [(0, Value.agg #[iv x.k, iv x.a, iv x.b, Value.slice Ax nx cx])] = some #[iv x.k, iv x.a, iv x.b, Value.slice Ax nx cx] := by rfl
  simp at v10
  simp (disch := omega) [e16, e11, v10, c10, hfl]
  refine ns6.snoc (by_ := 48) (y := x) (u := .slice Ax nx cx) ((hX.grow.hi (by omega)).trans (Hi.app _ _ _)) (by omega) (by omega) (by simp; omega) (by kernel_rfl) (by kernel_rfl) ?_ (hX.acc.keeps (keeps_app _)) (by omega) (by unfold maxLen; omega) ?_
  · have := cells_hr (M := M10 ++ [Slot.live ⟨[iv x.k, iv x.a, iv x.b, Value.slice Ax nx cx], true, true, 138, 4⟩]) (id := M10.length) (n := 4) getElem?_snoc_eq rfl
    simp [srcOf, this]
  intro v' M11 hN s11
  have lo10 := ((lo6.grow hX.grow).grow (Grow.app g M10 [Slot.live ⟨[iv x.k, iv x.a, iv x.b, Value.slice Ax nx cx], true, true, 138, 4⟩])).same s11
  have b11 := s11.2 _ _ (by omega) ((keeps_app [Slot.live ⟨[iv x.k, iv x.a, iv x.b, Value.slice Ax nx cx], true, true, 138, 4⟩]).get box10)
  obtain ⟨A', c', rfl⟩ := hN.one
  have p11 : putCells b M11 q 2 [.slice A' (ns ++ [x]).length c'] = some (M11.set q (.live ⟨[iv 3, .slice At ts.length ct, .slice A' (ns ++ [x]).length c', .slice (some ⟨M.length + 1, 0, none⟩) 0 0], true, true, 48, 4⟩)) := put_row b11 (by omega) (by simp) rfl
  simp only [List.length_append, List.length_singleton] at p11
  simp (disch := omega) [p11, e13, wrap_in]
  have l11 := (List.getElem?_eq_some_iff.1 b11).1
  refine lpI m (by omega) ⟨ns ++ [x], _, k10, by simp; omega, ⟨lo10.set, by simpa using set_get l11, by simpa using hN.hi (Hi.set (by omega)), fun i hi => ?_, ((hX.src.app _).same (s11.low (by omega))).same (Same.set (by omega))⟩, by simp; omega, by simp, by simp [e12], by simp [e11], by simp [e10], by simp [e4], by simp [e2], by simp [e1], by simp [e0]⟩
  simp only [List.length_append, List.length_singleton] at hi ⊢
  by_cases hin : i < ns.length
  · rw [el_append_left hin]
    exact (hI.ok i hin).mono (by omega)
  · obtain rfl : i = ns.length := by omega
    rw [el_append_right (Nat.le_refl _), Nat.sub_self]
    exact hO.mono (by omega)
end Go.Proofs.Ytimijeeihicohaa
