/- Samples and signals that are drawn. No conditions. -/
import Derived.Test.YthopcmglcnlcfaaW1
import Derived.Test.YthopcmglcnlcfaaOAdd
namespace Go.Proofs.Ythopcmglcnlcfaa
open Go.RowKit
set_option linter.unusedVariables false
set_option linter.unusedSimpArgs false
set_option maxRecDepth 100000
attribute [local simp] List.getElem?_cons_zero
attribute [local irreducible] awCond awCall awLoop awDraw ow retQ retC resQ Keeps
/-- Row g alone may have turned; more may lie behind. -/
def Grow (g : Nat) (M M' : Mem) : Prop := M.length ≤ M'.length ∧ ∀ (i : Nat) s, i ≠ g → M[i]? = some s → M'[i]? = some s
theorem Grow.refl (g : Nat) (M : Mem) : Grow g M M := ⟨Nat.le_refl _, fun _ _ _ h => h⟩
theorem Grow.trans {g : Nat} {M M1 M2 : Mem} (h : Grow g M M1) (h' : Grow g M1 M2) : Grow g M M2 := ⟨Nat.le_trans h.1 h'.1, fun i s hi hs => h'.2 i s hi (h.2 i s hi hs)⟩
theorem Grow.app (g : Nat) (M L : Mem) : Grow g M (M ++ L) := ⟨by simp, fun i s _ hs => by rw [List.getElem?_append_left (List.getElem?_eq_some_iff.1 hs).1]; exact hs⟩
theorem UpdS.grow {g : Nat} {M M' : Mem} (u : UpdS g M M') : Grow g M M' := ⟨Nat.le_of_eq u.1.symm, u.2⟩
theorem Grow.same {g B : Nat} {M M' : Mem} (u : Grow g M M') (h : B ≤ g) : Same B M M' := ⟨u.1, fun i s hi hs => u.2 i s (by omega) hs⟩
theorem Grow.acc {α : Type} {q : Nat} {R : RecV α q} {e : TypeId} {g B : Nat} {M M' : Mem} {v : Value} {l : List α} (u : Grow g M M') (h : Acc R e B M v l) (hg : g < B) : Acc R e B M' v l := by
  obtain ⟨A, n, c, h1, h2, h3⟩ := h
  refine ⟨A, n, c, h1, h2, ?_⟩
  rcases h3 with h3 | ⟨id, t, h4, h5, h6⟩
  · exact .inl h3
  · exact .inr ⟨id, t, h4, h5, u.2 _ _ (by omega) h6⟩
theorem Same.grow {g B : Nat} {M M' : Mem} (h : Same B M M') (k : ∀ (i : Nat) s, i ≠ g → B ≤ i → M[i]? = some s → M'[i]? = some s) : Grow g M M' :=
  ⟨h.1, fun i s hi hs => (Nat.lt_or_ge i B).elim (fun hb => h.2 i s hb hs) fun hb => k i s hi hb hs⟩
theorem Src.lt {g B k : Nat} {M : Mem} (h : Src g B M k) : g < B := by obtain ⟨_, _, _, _, _, h, _⟩ := h; exact h
theorem l01Wrap_a {M : Mem} (n : Int) : Det Try.prog M.length 132 [iv n] M (iv (Old.w32 n)) M := by
  refine det_val0 ⟨_, Try.func132, by kernel_rfl, by kernel_rfl⟩ rfl fun μ w cs hl hS => ?_
  obtain ⟨y, ys, rfl, hv, hl⟩ := lrel_cons hl
  obtain rfl := lrel_nil hl
  obtain rfl := vrel_int hv
  exact Old.l01Wrap_any n w
theorem l01Add_a {M : Mem} (n m : Int) : Det Try.prog M.length 105 [iv n, iv m] M (iv (Old.w32 (n + m))) M := by
  refine det_val0 ⟨_, Try.func105, by kernel_rfl, by kernel_rfl⟩ rfl fun μ w cs hl hS => ?_
  obtain ⟨y, ys, rfl, hv, hl⟩ := lrel_cons hl
  obtain ⟨z, zs, rfl, hz, hl⟩ := lrel_cons hl
  obtain rfl := lrel_nil hl
  obtain rfl := vrel_int hv
  obtain rfl := vrel_int hz
  exact Old.l01Add_any n m w
def smp (x : Int) : Prop := -2147483648 ≤ x ∧ x ≤ 2147483647
theorem smp_w32 (n : Int) : smp (Old.w32 n) := Old.w32_bd n
theorem nextS {M : Mem} {b g k B : Nat} (h : Src g B M k) (hb : b ≤ g) (hk : k ≤ 1099511627776) :
    Ctr Try.prog b 123 [.pointer (some ⟨g, 0, none⟩)] M fun r M' => ∃ x : Int, r = iv x ∧ 0 ≤ x ∧ x ≤ 255 ∧ Src g B M' (k + 1) ∧ UpdS g M M' := by
  obtain ⟨A, n, c, cs, h1, h2, h3, h4⟩ := h
  exact (next_s h1 hb hk (by omega)).mono fun r M' ⟨⟨x, a1, a2, a3⟩, a4, a5⟩ => ⟨x, a1, a2, a3, ⟨A, n, c, cs, a4, h2, h3, h4⟩, a5⟩
theorem fill_ints {k : IntKind} (l : List Int) {n : Nat} (hn : l.length = n) : Instr.fill (fun i => some (i, 1)) (zrow [.int k 0] n).toArray (((l.map (Value.int k)).zipIdx 0).map fun x => (x.2, x.1)) = some (l.map (Value.int k)).toArray := by
  have h := Go.Great.fill_whole (s := 1) (by omega) (l.map (Value.int k)) (zrow [.int k 0] n).toArray (fun v hv => by obtain ⟨x, -, rfl⟩ := List.mem_map.1 hv; rfl) (by simp [zrow, hn])
  simp only [Nat.mul_one] at h
  rw [h]
  congr 2
  clear h hn
  induction l with
  | nil => rfl
  | cons a l ih => simp only [List.map_cons, List.flatMap_cons, ih, cells_int]; rfl
theorem fill6 (a b c d e f : Int) : Instr.fill (fun i => some (i, 1)) (zrow [iv 0] 6).toArray [(0, iv a), (1, iv b), (2, iv c), (3, iv d), (4, iv e), (5, iv f)] = some #[iv a, iv b, iv c, iv d, iv e, iv f] :=
  fill_ints (k := .i64) [a, b, c, d, e, f] rfl
theorem l01Draw_a {M : Mem} {b g k B : Nat} (h : Src g B M k) (hb : b ≤ g) (hB : B ≤ M.length) (hk : k ≤ 1048576) :
    Ctr Try.prog b 104 [.pointer (some ⟨g, 0, none⟩)] M fun r M' => ∃ (x : Int) (k' : Nat), r = iv x ∧ smp x ∧ k' ≤ k + 6 ∧ Src g B M' k' ∧ Grow g M M' := by
  have hg := h.lt
  first | (refine ctr_fn Try.func104 rfl Try.ntmps104 Try.results104 rfl rfl (by simp) ?_) | (refine ctr_fnC Try.func104 rfl Try.ntmps104 Try.results104 rfl (by simp) ?_)
  simp
  refine awCall_ctr (h.pick 8 hb (by omega) (by omega)) ?_
  rintro r M1 ⟨x, k1, rfl, x0, x1, hk1, h1, u1⟩
  have n1 := u1.1
  by_cases e0 : x = 0
  · subst e0
    simp [fill6]
    have hsl : Sl intR (M1 ++ [.live ⟨cellsL intR [-2147483648, 2147483647, -2147483647, 65536, -65536, 1073741824], true, true, 2, 1⟩]) (some ⟨M1.length, 0, none⟩) 6 [-2147483648, 2147483647, -2147483647, 65536, -65536, 1073741824] := Sl.new rfl
    refine awCall_ctr (among_s (c := 6) (h1.app _) hb (by omega) hsl (fun a e _ => by injection e with e; subst e; show M1.length ≠ g; omega) (by omega) (by omega)) ?_
    rintro r M2 ⟨z, k2, rfl, hz, hk2, h2, u2⟩
    simp
    refine ⟨?_, k2, by omega, h2, (u1.grow.trans (Grow.app _ _ _)).trans u2.grow⟩
    simp at hz
    unfold smp
    omega
  by_cases e1 : x = 1
  · subst e1
    simp
    refine awCall_ctr (nextS h1 hb (by omega)) ?_
    rintro r M2 ⟨y, rfl, y0, y1, h2, u2⟩
    try simp
    refine awLoop_T (fun m T M' => ∃ (j : Nat) (y : Int), j + m = 3 ∧ 0 ≤ y ∧ y < 256 ^ (j + 1) ∧ Src g B M' (k1 + 1 + j) ∧ Grow g M M' ∧ look T 4 = some (iv j) ∧ look T 3 = some (iv y) ∧ look T 0 = some (.pointer (some ⟨g, 0, none⟩))) 3 ⟨0, y, by omega, y0, by simp; omega, h2, u1.grow.trans u2.grow, by simp, by simp, by simp⟩ ?_
    rintro m T M3 ⟨j, z, hj, z0, z1, h3, g3, t4, t3, t0⟩
    by_cases hj3 : j < 3
    · have hz : z < 16777216 := by
        rcases j with _ | _ | _ | j
        · simp at z1; omega
        · simp at z1; omega
        · simp at z1; omega
        · omega
      have hj' : (j : Int) < 3 := by omega
      simp (disch := omega) [t4, t3, t0, hj', wrap_in]
      refine awCall_ctr (nextS h3 hb (by omega)) ?_
      rintro r M4 ⟨y', rfl, y0', y1', h4, u4⟩
      simp (disch := omega) [t4, t3, t0, hj', wrap_in]
      refine lpI (m - 1) (by omega) ?_
      refine ⟨j + 1, 256 * z + y', by omega, by omega, by rw [Int.pow_succ]; omega, h4, g3.trans u4.grow, by simp, by simp, by simp [t0]⟩
    · have hj' : ¬ (j : Int) < 3 := by omega
      simp (disch := omega) [t4, t3, t0, hj', wrap_in]
      refine awCall_det' (l01Wrap_a z) (by have := g3.1; have := h3.lt; omega) ?_
      simp
      exact ⟨smp_w32 _, _, by omega, h3, g3⟩
  by_cases e2 : x = 2
  · subst e2
    simp
    exact ⟨⟨by omega, by omega⟩, k1, by omega, h1, u1.grow⟩
  simp [e0, e1, e2]
  refine awCall_ctr (h1.pick 41 hb (by omega) (by omega)) ?_
  rintro r M2 ⟨y, k2, rfl, y0, y1, hk2, h2, u2⟩
  simp (disch := omega) [wrap_in]
  exact ⟨⟨by omega, by omega⟩, k2, by omega, h2, u1.grow.trans u2.grow⟩
theorem l29Draw_a {M : Mem} {b g k B most : Nat} (h : Src g B M k) (hb : b ≤ g) (hB : B ≤ M.length) (hk : k ≤ 1000) (hm : most ≤ 100) :
    Ctr Try.prog b 60 [.pointer (some ⟨g, 0, none⟩), iv most] M fun r M' => ∃ (l : List Int) (k' : Nat), Acc intR 2 M.length M' r l ∧ l.length ≤ most ∧ (∀ i, i < l.length → smp (el l i)) ∧ Same g M M' := by
  have hg := h.lt
  first | (refine ctr_fn Try.func60 rfl Try.ntmps60 Try.results60 rfl rfl (by simp) ?_) | (refine ctr_fnC Try.func60 rfl Try.ntmps60 Try.results60 rfl (by simp) ?_)
  simp
  refine awCall_ctr (l01Draw_a (h.app _) hb (by simp; omega) (by omega)) ?_
  rintro r M1 ⟨x, k1, rfl, hx, hk1, h1, g1⟩
  have n1 := g1.1
  simp at n1
  have hacc : Acc intR 2 M.length M1 (.slice (some ⟨M.length, 0, none⟩) 0 0) [] := g1.acc ⟨_, _, _, rfl, rfl, .inr ⟨M.length, true, rfl, Nat.le_refl _, by rw [getElem?_snoc_eq]; rfl⟩⟩ (by omega)
  try simp
  refine awCall_ctr (h1.pick 200 hb (by omega) (by omega)) ?_
  rintro r M2 ⟨st, k2, rfl, st0, st1, hk2, h2, u2⟩
  have n2 := u2.1
  try simp (disch := omega) [wrap_in]
  refine awCall_ctr (h2.pick 4 hb (by omega) (by omega)) ?_
  rintro r M3 ⟨kd, k3, rfl, kd0, kd1, hk3, h3, u3⟩
  have n3 := u3.1
  try simp (disch := omega) [wrap_in]
  refine awCall_ctr (h3.pick ((most : Int) + 1) hb (by omega) (by omega)) ?_
  rintro r M4 ⟨ct, k4, rfl, ct0, ct1, hk4, h4, u4⟩
  have n4 := u4.1
  try simp (disch := omega) [wrap_in]
  obtain ⟨cn, rfl⟩ := Int.eq_ofNat_of_zero_le ct0
  have s4 : Same g M M4 := ((((Same.app g M _).trans (g1.same (Nat.le_refl _))).trans (u2.same (Nat.le_refl _))).trans (u3.same (Nat.le_refl _))).trans (u4.same (Nat.le_refl _))
  refine awLoop_T (fun m T M' => ∃ (l : List Int) (v : Value) (x st : Int) (k' : Nat), Acc intR 2 M.length M' v l ∧ l.length + m = cn ∧ (∀ i, i < l.length → smp (el l i)) ∧ smp x ∧ -100 - (l.length : Int) ≤ st ∧ st ≤ 100 + l.length ∧ Src g B M' k' ∧ k' ≤ k + 12 + 8 * l.length ∧ Same g M M' ∧ M.length ≤ M'.length ∧ look T 9 = some (iv m) ∧ look T 8 = some (iv kd) ∧ look T 7 = some (iv st) ∧ look T 6 = some (iv x) ∧ look T 5 = some v ∧ look T 0 = some (.pointer (some ⟨g, 0, none⟩))) cn
    ⟨[], _, x, st - 100, k4, u4.acc (u3.acc (u2.acc hacc (by omega)) (by omega)) (by omega), by simp, fun i hi => by simp at hi, hx, by simp; omega, by simp; omega, h4, by simp; omega, s4, by omega, by simp, by simp, by simp, by simp, by simp, by simp⟩ ?_
  rintro m T M5 ⟨l, v, x, st, k5, hA, hl, hs, hx, sl, sh, h5, hk5, s5, n5, t9, t8, t7, t6, t5, t0⟩
  rcases m with _ | m
  · simp [t9, t5]
    exact ⟨l, hA, by omega, hs, s5⟩
  · have e : (0 : Int) < (m : Int) + 1 := by omega
    simp [t9, t8, t7, t6, t5, t0, fill1]
    refine Acc.append (R := intR) (e := 2) (by_ := 8) (a := x) (hA.keeps (keeps_app _)) (by omega) (by simp; omega) (by omega) (by simp) (by kernel_rfl) (by simp [srcOf, intR]) (by rfl) (by omega) (by unfold maxLen; omega) ?_
    intro v' M6 hA6 s6
    have h6 : Src g B M6 k5 := (h5.app _).same (s6.low (by omega))
    have s6' : Same g M M6 := (s5.trans (Same.app _ _ _)).trans (s6.low (by omega))
    have n6 := s6'.1
    have hs6 : ∀ i, i < (l ++ [x]).length → smp (el (l ++ [x]) i) := by
      intro i hi
      rw [List.length_append, List.length_singleton] at hi
      rcases Nat.lt_or_ge i l.length with h | h
      · rw [el_append_left h]; exact hs i h
      · obtain rfl : i = l.length := by omega
        rw [el_append_right (Nat.le_refl _), Nat.sub_self]
        exact hx
    have hlen : (l ++ [x]).length = l.length + 1 := by simp
    have nxt : ∀ (M' : Mem) (x' st' : Int) (k' : Nat) (T' : List (Nat × Value)), smp x' → -100 - ((l ++ [x]).length : Int) ≤ st' → st' ≤ 100 + ((l ++ [x]).length : Int) → Src g B M' k' → k' ≤ k5 + 8 → Grow g M6 M' → look T' 9 = some (iv m) → look T' 8 = some (iv kd) → look T' 7 = some (iv st') → look T' 6 = some (iv x') → look T' 5 = some v' → look T' 0 = some (.pointer (some ⟨g, 0, none⟩)) →
      ∃ (l : List Int) (v : Value) (x st : Int) (k' : Nat), Acc intR 2 M.length M' v l ∧ l.length + m = cn ∧ (∀ i, i < l.length → smp (el l i)) ∧ smp x ∧ -100 - (l.length : Int) ≤ st ∧ st ≤ 100 + l.length ∧ Src g B M' k' ∧ k' ≤ k + 12 + 8 * l.length ∧ Same g M M' ∧ M.length ≤ M'.length ∧ look T' 9 = some (iv m) ∧ look T' 8 = some (iv kd) ∧ look T' 7 = some (iv st) ∧ look T' 6 = some (iv x) ∧ look T' 5 = some v ∧ look T' 0 = some (.pointer (some ⟨g, 0, none⟩)) :=
      fun M' x' st' k' T' a1 a2 a3 a4 a5 a6 b1 b2 b3 b4 b5 b6 => ⟨l ++ [x], v', x', st', k', a6.acc hA6 (by omega), by omega, hs6, a1, a2, a3, a4, by omega, s6'.trans (a6.same (Nat.le_refl _)), by have := a6.1; omega, b1, b2, b3, b4, b5, b6⟩
    rw [hlen] at nxt
    by_cases q0 : kd = 0
    · simp [t9, t8, t7, t6, t5, t0, q0]
      refine awCall_ctr (l01Draw_a h6 hb (by omega) (by omega)) ?_
      rintro r M7 ⟨y, k7, rfl, hy, hk7, h7, g7⟩
      try simp (disch := omega) [t9, t8, t7, t6, t5, t0, q0, wrap_in]
      refine lpI m (by omega) (nxt M7 y st k7 _ hy (by omega) (by omega) h7 (by omega) g7 ?_ ?_ ?_ ?_ ?_ ?_) <;> simp [t8, t7, t0, q0]
    by_cases q1 : kd = 1
    · simp [t9, t8, t7, t6, t5, t0, q1]
      refine awCall_ctr (h6.pick 9 hb (by omega) (by omega)) ?_
      rintro r M7 ⟨y, k7, rfl, y0, y1, hk7, h7, u7⟩
      try simp (disch := omega) [t9, t8, t7, t6, t5, t0, q1, wrap_in]
      refine awCall_det' (l01Add_a _ _) (by have := u7.1; omega) ?_
      try simp (disch := omega) [t9, t8, t7, t6, t5, t0, q1, wrap_in]
      refine lpI m (by omega) (nxt M7 (Old.w32 (x + (y - 4))) st k7 _ (smp_w32 _) (by omega) (by omega) h7 (by omega) u7.grow ?_ ?_ ?_ ?_ ?_ ?_) <;> simp [t8, t7, t0, q1]
    by_cases q2 : kd = 2
    · simp [t9, t8, t7, t6, t5, t0, q2]
      refine awCall_det' (l01Add_a _ _) (by omega) ?_
      try simp (disch := omega) [t9, t8, t7, t6, t5, t0, q2, wrap_in]
      refine awCall_ctr (h6.pick 3 hb (by omega) (by omega)) ?_
      rintro r M7 ⟨y, k7, rfl, y0, y1, hk7, h7, u7⟩
      try simp (disch := omega) [t9, t8, t7, t6, t5, t0, q2, wrap_in]
      refine lpI m (by omega) (nxt M7 (Old.w32 (x + st)) (st + (y - 1)) k7 _ (smp_w32 _) (by omega) (by omega) h7 (by omega) u7.grow ?_ ?_ ?_ ?_ ?_ ?_) <;> simp [t8, t7, t0, q2]
    · simp [t9, t8, t7, t6, t5, t0, q0, q1, q2]
      refine awCall_ctr (h6.pick 40 hb (by omega) (by omega)) ?_
      rintro r M7 ⟨y, k7, rfl, y0, y1, hk7, h7, u7⟩
      try simp (disch := omega) [t9, t8, t7, t6, t5, t0, q0, q1, q2, wrap_in]
      refine lpI m (by omega) (nxt M7 (y - 20) st k7 _ ⟨by omega, by omega⟩ (by omega) (by omega) h7 (by omega) u7.grow ?_ ?_ ?_ ?_ ?_ ?_) <;> simp [t8, t7, t0]
theorem E8Signal_a {M : Mem} {A : Option Addr} {n c m : Nat} {cs : List Int} (h : Sl codeR M A n cs) (hn : n ≤ 1048576) (hcs : ∀ x, x ∈ cs → 0 ≤ x ∧ x ≤ 255) (hm : m ≤ 100) :
    Ctr Try.prog M.length 19 [.slice A n c, iv m] M fun r M' => ∃ A c l, r = .slice A l.length c ∧ Sl intR M' A l.length l ∧ l.length ≤ m ∧ (∀ i, i < l.length → smp (el l i)) ∧ Keeps M M' := by
  first | (refine ctr_fn Try.func19 rfl Try.ntmps19 Try.results19 rfl rfl (by simp) ?_) | (refine ctr_fnC Try.func19 rfl Try.ntmps19 Try.results19 rfl (by simp) ?_)
  simp
  refine awCall_det' (l00From_a h hn hcs) (by simp) ?_
  refine awCall_ctr (l29Draw_a (most := m) (src_new h hn hcs) (Nat.le_refl _) (by simp) (by omega) hm) ?_
  rintro r M1 ⟨l, k', hA, hl, hs, hsm⟩
  obtain ⟨A, q, c, rfl, hq, hsl, -⟩ := hA.sl
  subst hq
  have hk : Keeps M M1 := by
    unfold Keeps
    exact fun i s hi => hsm.2 i s (List.getElem?_eq_some_iff.1 hi).1 (by rw [List.getElem?_append_left (List.getElem?_eq_some_iff.1 hi).1]; exact hi)
  exact ⟨A, c, l, rfl, hsl, hl, hs, hk⟩
end Go.Proofs.Ythopcmglcnlcfaa
