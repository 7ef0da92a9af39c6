/- Parts of the proof, together: The sum of the signals of voices. A longer performance begins with the shorter one, in plain words. What a patch renders is samples, in plain words. The law of performances is walked. No conditions. -/
import Derived.Test.YtimijeeihicohaaZzL18
import Derived.Test.YtimijeeihicohaaZzL13
import Derived.Test.YtimijeeihicohaaZzL15
namespace Go.Proofs.Ytimijeeihicohaa
open Go.RowKit
set_option linter.unusedVariables false
set_option linter.unusedSimpArgs false
set_option maxRecDepth 100000
attribute [local simp] List.getElem?_cons_zero
attribute [local irreducible] awCond awCall awLoop awDraw ow retQ retC resQ Keeps
def addL (a b : List Int) : List Int := (List.range (max a.length b.length)).map fun i : Nat => smp (atL a i + atL b i)
theorem addL_len {a b : List Int} : (addL a b).length = max a.length b.length := by simp [addL]
theorem addL_el {a b : List Int} {i : Nat} (h : i < max a.length b.length) : el (addL a b) i = smp (atL a i + atL b i) := by
  unfold addL el
  simp only [List.getD_eq_getElem?_getD, List.getElem?_map]
  rw [List.getElem?_range h]
  rfl
def gatesL (x : Inst) (l : List Gate) (N : Nat) : Nat → List Int
  | 0 => List.replicate N 0
  | v + 1 => if voiceL l v = [] then gatesL x l N v else addL (gatesL x l N v) (voL x (voiceL l v) N)
theorem gatesL_len {x : Inst} {l : List Gate} {N : Nat} : ∀ v, (gatesL x l N v).length = N
  | 0 => by simp [gatesL]
  | v + 1 => by
    rw [gatesL]
    split
    · exact gatesL_len v
    · rw [addL_len, gatesL_len v, voL_len, Nat.max_self]
theorem okG_filter {l : List Gate} (q : Gate → Bool) (h : okG l = true) : okG (l.filter q) = true := by
  have hs := okG_sorted h
  have h' := h
  unfold okG at h' ⊢
  simp only [Bool.and_eq_true, decide_eq_true_eq] at h' ⊢
  obtain ⟨h1, h2⟩ := h'
  have hp : l.Pairwise fun a b => a.s ≤ b.s := by
    rw [List.pairwise_iff_getElem]
    intro i j hi hj hij
    rw [el_eq hi, el_eq hj]
    exact hs i j (by omega) hj
  have hf := hp.sublist (List.filter_sublist (p := q))
  rw [List.pairwise_iff_getElem] at hf
  refine ⟨fun i hi => ⟨?_, fun h0 => ?_⟩, Nat.le_trans (List.length_filter_le _ _) h2⟩
  · have hm : el (l.filter q) i ∈ l := (List.mem_filter.1 (el_mem hi)).1
    obtain ⟨j, hj, e⟩ := List.getElem_of_mem hm
    rw [← e, el_eq hj]
    exact (h1 j hj).1
  · have := hf (i - 1) i (by omega) hi (by omega)
    rw [el_eq, el_eq] at this
    exact this
theorem NewRow.acc {M M' : Mem} {v : Value} {l : List Int} (h : NewRow M v M' l.length (rowI l)) : Acc intR 2 M.length M' v l := by
  obtain ⟨q, m, t, rfl, h1, h2, -⟩ := h
  exact ⟨_, _, _, rfl, rfl, .inr ⟨q, t, rfl, h1, h2⟩⟩
theorem addTimes_x {M : Mem} {lo hi lo' hi' : Nat} {u v : Value} {a b : List Int} (ha : SlV intP lo hi M u a) (hb : SlV intP lo' hi' M v b) (hla : a.length ≤ 4000) (hlb : b.length ≤ 4000) :
    Det Try.prog M.length 89 [u, iv 1, v] M (.slice (some ⟨M.length, 0, none⟩) (addL a b).length (addL a b).length) (M ++ [.live (rowI (addL a b))]) := by
  refine Ctr.compact (rowI_plain _) ?_
  obtain ⟨A, n, c, rfl, hn, hn2, -, -⟩ := sl_take ha
  obtain ⟨B, m, d, rfl, hm, hm2, -, -⟩ := sl_take hb
  have hL : (addL a b).length = max n m := by rw [addL_len, hn, hm]
  first | (refine ctr_fn Try.func89 rfl Try.ntmps89 Try.results89 rfl rfl (by simp) ?_) | (refine ctr_fnC Try.func89 rfl Try.ntmps89 Try.results89 rfl (by simp) ?_)
  simp
  refine awCall_det' (size_ia (by omega)) (by omega) ?_
  try simp
  refine awCall_det' (size_ia (by omega)) (by omega) ?_
  have hmax : (if (n : Int) < m then (m : Int) else n) = ((max n m : Nat) : Int) := by
    split <;> omega
  simp only [maxV_int, gt_iff_lt, hmax, ow_some, op_max]
  try simp [hmax]
  obtain ⟨L, hLm⟩ : ∃ L, L = max n m := ⟨_, rfl⟩
  rw [← hLm] at hL
  have hmax' : max (n : Int) (m : Int) = (L : Int) := by omega
  try rw [hmax']
  rw [← hLm]
  refine awCall_det' (zeros_i L (by omega)) (by omega) ?_
  simp
  refine awLoop_T (fun q T M' => ∃ (k : Nat) (r : List Int), k + q = L ∧ Keeps M M' ∧ M'[M.length]? = some (.live ⟨cellsL intR r, true, true, 2, 1⟩) ∧ r.length = L ∧ (∀ j, j < k → el r j = el (addL a b) j) ∧ look T 17 = some (iv k) ∧ look T 16 = some (iv L) ∧ look T 7 = some (.slice (some ⟨M.length, 0, none⟩) L L) ∧ look T 0 = some (.slice A n c) ∧ look T 1 = some (iv 1) ∧ look T 2 = some (.slice B m d)) L
    ⟨0, List.replicate L 0, by omega, keeps_app _, by simp, by simp, fun j hj => by omega, by simp, by simp, by simp, by simp, by simp, by simp⟩ ?_
  rintro q T M1 ⟨k, r, hq, k1, rr, hrl, hr, t17, t16, t7, t0, t1, t2⟩
  have hl1 := k1.len
  by_cases hlt : k < L
  · have er : rowEsz M1 M.length = some 1 := by simp [rowEsz, rr]
    simp (disch := omega) [t17, t16, t7, t0, t1, t2, hlt, wrap_in]
    refine awCall_det' (at_i k (by omega) (ha.keeps k1)) (by omega) ?_
    try simp (disch := omega) [t17, t16, t7, t0, t1, t2, hlt, wrap_in]
    refine awCall_det' (at_i k (by omega) (hb.keeps k1)) (by omega) ?_
    try simp
    refine awCall_det' (Wrap_s _) (by omega) ?_
    have hy : smp (IntKind.i64.wrap (atL a k + IntKind.i64.wrap (atL b k))) = el (addL a b) k := by
      rw [addL_el (by omega), smp_wrap]
      refine smp_mod ?_
      rw [IntKind.wrap_i64]
      omega
    try rw [hy]
    have hp := put_rec (R := intR) (b := M.length) (a := el (addL a b) k) (off := k) (i := k) rr (by omega) (by omega) (by omega) rfl
    have hp' : putCells M.length M1 M.length k [Value.int IntKind.i64 (el (addL a b) k)] = _ := hp
    have lt1 := (List.getElem?_eq_some_iff.1 rr).1
    simp (disch := omega) [t17, t16, t7, t0, t1, t2, hlt, er, wrap_in, hp', hy]
    refine lpI (q - 1) (by omega) ⟨k + 1, r.set k (el (addL a b) k), by omega, keeps_set k1 (Nat.le_refl _), List.getElem?_set_self lt1, by simp [hrl], fun j hj => ?_, by simp, by simp [t16], by simp [t7], by simp [t0], by simp [t1], by simp [t2]⟩
    by_cases e : k = j
    · subst e
      rw [el_set_same _ (by omega)]
    · rw [el_set_other _ e]
      exact hr j (by omega)
  · obtain rfl : k = L := by omega
    have hre : r = addL a b := by
      apply List.ext_getElem
      · omega
      · intro j a' b'
        rw [el_eq, el_eq]
        exact hr j (by omega)
    subst hre
    simp (disch := omega) [t17, t16, t7, t0, t1, t2]
    exact ⟨newRow_in rfl (Nat.le_refl _) rr |> fun h => by rw [hL] at h ⊢; exact h, k1⟩
theorem l03Add_x {M : Mem} {lo hi lo' hi' : Nat} {u v : Value} {a b : List Int} (ha : SlV intP lo hi M u a) (hb : SlV intP lo' hi' M v b) (hla : a.length ≤ 4000) (hlb : b.length ≤ 4000) :
    Det Try.prog M.length 61 [u, v, iv 1] M (.slice (some ⟨M.length, 0, none⟩) (addL a b).length (addL a b).length) (M ++ [.live (rowI (addL a b))]) := by
  refine Ctr.compact (rowI_plain _) ?_
  obtain ⟨A, n, c, rfl, hn, hn2, -, -⟩ := sl_take ha
  obtain ⟨B, m, d, rfl, hm, hm2, -, -⟩ := sl_take hb
  have hL : (addL a b).length = max n m := by rw [addL_len, hn, hm]
  obtain ⟨L, hLm⟩ : ∃ L, L = max n m := ⟨_, rfl⟩
  rw [← hLm] at hL
  have hmax : max (n : Int) (m : Int) = (L : Int) := by omega
  first | (refine ctr_fn Try.func61 rfl Try.ntmps61 Try.results61 rfl rfl (by simp) ?_) | (refine ctr_fnC Try.func61 rfl Try.ntmps61 Try.results61 rfl (by simp) ?_)
  simp
  refine awCall_det' (l00Max_v _ _) (by simp) ?_
  rw [hmax]
  try simp
  refine awLoop_T (fun q T M' => ∃ (k : Nat) (r : Value), k + q = L ∧ Same M.length M M' ∧ M.length < M'.length ∧ Acc intR 2 M.length M' r ((addL a b).take k) ∧ (∃ a n c, r = .slice (some a) n c) ∧ look T 9 = some (iv k) ∧ look T 8 = some (iv L) ∧ look T 7 = some r ∧ look T 0 = some (.slice A n c) ∧ look T 1 = some (.slice B m d) ∧ look T 2 = some (iv 1)) L
    ⟨0, _, by omega, .appS _ _, by simp, ⟨_, 0, 0, rfl, rfl, .inr ⟨M.length, true, rfl, Nat.le_refl _, by simp [cellsL]⟩⟩, ⟨_, _, _, rfl⟩, by simp, by simp, by simp, by simp, by simp, by simp⟩ ?_
  rintro q T M1 ⟨k, r, hq, i1, i2, i3, ⟨ra, rn, rc, rfl⟩, t9, t8, t7, t0, t1, t2⟩
  have k1 := slt i1
  by_cases hlt : k < L
  · simp (disch := omega) [t9, t8, t7, t0, t1, t2, hlt, wrap_in]
    refine awCall_det' (l03At_s k (ha.keeps k1)) (by omega) ?_
    try simp (disch := omega) [t9, t8, t7, t0, t1, t2, hlt, wrap_in]
    refine awCall_det' (l03At_s k (hb.keeps k1)) (by omega) ?_
    try simp (disch := omega) [t9, t8, t7, t0, t1, t2, hlt, wrap_in]
    refine awCall_det' (l01Mul_s _ _) (by omega) ?_
    try simp
    refine awCall_det' (l01Add_s _ _) (by omega) ?_
    have hy : smp (smp (atL a k) + smp (smp (smp (atL b k) * smp 1))) = el (addL a b) k := by
      rw [addL_el (by omega), smp_mul2, Int.mul_one, smp_add2, smp_addr]
    rw [hy]
    simp [fill1I]
    obtain ⟨v', M', a1, a2, a3⟩ := append_det (P := Try.prog) (t := 46) (tx := 46) (e := 2) (by_ := 8) (b := M.length) (S := ⟨0, [], M1 ++ [Slot.live ⟨[iv (el (addL a b) k)], true, true, 2, 1⟩]⟩) (x := .slice (some ⟨M1.length, 0, none⟩) 1 1) (a := el (addL a b) k) (i3.keeps (keeps_app _)) (Nat.le_refl _) (by simp; omega) (by simp) (by kernel_rfl) (by simp [srcOf]; rfl) (by simp; omega) (by simp; unfold maxLen; omega)
    refine appendK_M (S := ⟨0, [], M1 ++ [Slot.live ⟨[iv (el (addL a b) k)], true, true, 2, 1⟩]⟩) (by rfl) (append_ctr (append_nn (a3 (fun v M => v = v' ∧ M = M') ⟨rfl, rfl⟩)) ?_)
    rintro v M2 ⟨⟨rfl, rfl⟩, hnn⟩
    have hs := Same.trans' (Same.trans' i1 (Same.appB _ _)) a2
    have hml : M.length < M2.length := by have := a2.1; simp at this; omega
    try simp (disch := omega) [t9, t8, t7, t0, t1, t2, wrap_in]
    refine lpI (q - 1) (by omega) ⟨k + 1, _, by omega, hs, hml, ?_, hnn, by simp, by simp [t8], by simp, by simp [t0], by simp [t1], by simp [t2]⟩
    rw [take_el (by omega)]
    exact a1
  · obtain rfl : k = L := by omega
    rw [List.take_of_length_le (by omega)] at i3
    simp (disch := omega) [t9, t8, t7, t0, t1, t2]
    have := i3.newRow ⟨_, _, _, rfl⟩
    exact ⟨this, k1⟩
theorem gates_i {M : Mem} {lo hi : Nat} {us : List Value} {x : Inst} {A : Option Addr} {n c N : Nat} {l : List Gate} (h : instP.rd lo hi M x us) (hb : instB x = true) (hg : Sl gateR M A n l) (hok : okG l = true) (hN : N ≤ 4000) (hM : hi ≤ M.length) :
    Ctr Try.prog M.length 57 [.agg us.toArray, .slice A n c, iv N] M fun r M' => VoO M.length M' r (gatesL x l N 4) ∧ Keeps M M' := by
  have hl := instP.len h
  have ht : us.take 8 = us := List.take_of_length_le (by omega)
  have hgl := hg.1
  have h60 := okG_len hok
  first | (refine ctr_fn Try.func57 rfl Try.ntmps57 Try.results57 rfl rfl (by simp) ?_) | (refine ctr_fnC Try.func57 rfl Try.ntmps57 Try.results57 rfl (by simp) ?_)
  simp [hl, ht]
  refine awCall_det' (zeros_i N hN) (by simp) ?_
  simp
  refine awLoop_T (fun q T M1 => ∃ (v : Nat) (r : Value), v + q = 4 ∧ Keeps M M1 ∧ M.length + 1 ≤ M1.length ∧ cellsAt M1 M.length 0 8 = some us ∧ VoO M.length M1 r (gatesL x l N v) ∧ look T 8 = some (iv v) ∧ look T 7 = some r ∧ look T 3 = some (.pointer (some ⟨M.length, 0, none⟩)) ∧ look T 1 = some (.slice A n c) ∧ look T 2 = some (iv N)) 4
    ⟨0, _, by omega, keeps_app _, by simp, by simp [hl, ht], ⟨_, N, N, rfl, by simp [gatesL], .inr ⟨M.length + 1, true, rfl, by omega, by simp [gatesL]⟩⟩, by simp, by simp, by simp, by simp, by simp⟩ ?_
  rintro q T M1 ⟨v, r, hq, k1, l1, bx, hA, t8, t7, t3, t1, t2⟩
  by_cases hlt : v < 4
  · have hlt' : (v : Int) < 4 := by omega
    simp (disch := omega) [t8, t7, t3, t1, t2, hlt', wrap_in]
    refine awCall_ctr ((voiceGates_a v (hg.keeps k1) (by omega)).weaken (b' := M.length) (by omega)) ?_
    rintro _ M2 ⟨A2, n2, c2, rfl, hn2, hS2, -, -, k2⟩
    have hl2 := hS2.1
    have kk := k1.trans k2
    have lk2 := k2.len
    have bx2 := cellsAt_keeps k2 bx
    by_cases h0 : n2 = 0
    · subst h0
      have e0 : voiceL l v = [] := List.eq_nil_of_length_eq_zero hl2
      try simp (disch := omega) [t8, t7, t3, t1, t2, wrap_in]
      refine lpI (q - 1) (by omega) ⟨v + 1, r, by omega, kk, by omega, bx2, by rw [gatesL, if_pos e0]; exact hA.keeps k2, by simp, by simp [t7], by simp [t3], by simp [t1], by simp [t2]⟩
    · have e0 : ¬ voiceL l v = [] := fun e => by rw [e] at hl2; simp at hl2; omega
      have hpos : 0 < n2 := by omega
      simp (disch := omega) [t8, t7, t3, t1, t2, hpos, bx2, wrap_in]
      refine awCall_det' (voice_x (N := N) (instP.keeps h kk) hb hS2 (okG_filter _ hok) hN (by have := kk.len; omega)) (by omega) ?_
      try simp
      have hAs := (hA.keeps k2).slv (by rw [gatesL_len]; omega)
      refine awCall_det' (addTimes_x (hAs.app _) (rowI_slv (by rw [voL_len]; omega)) (by rw [gatesL_len]; omega) (by rw [voL_len]; omega)) (by simp <;> omega) ?_
      try simp (disch := omega) [t8, t7, t3, t1, t2, wrap_in]
      have k3 : Keeps M2 (M2 ++ [Slot.live (rowI (voL x (voiceL l v) N)), Slot.live (rowI (addL (gatesL x l N v) (voL x (voiceL l v) N)))]) := keeps_app _
      refine lpI (q - 1) (by omega) ⟨v + 1, .slice (some ⟨M2.length + 1, 0, none⟩) (addL (gatesL x l N v) (voL x (voiceL l v) N)).length (addL (gatesL x l N v) (voL x (voiceL l v) N)).length, by omega, kk.trans k3, by simp; omega, cellsAt_keeps k3 bx2, ?_, by simp, by simp, by simp [t3], by simp [t1], by simp [t2]⟩
      rw [gatesL, if_neg e0]
      exact ⟨_, _, _, rfl, rfl, .inr ⟨M2.length + 1, false, rfl, by omega, by simp [rowI]⟩⟩
  · obtain rfl : v = 4 := by omega
    simp (disch := omega) [t8, t7, t3, t1, t2]
    exact ⟨hA, k1⟩
def rgV (x : Inst) (l : List Gate) (N : Int) : List Int × Int := if codeV x l N false = 0 then (gatesL x l N.toNat 4, 0) else ([], codeV x l N false)
theorem RenderGates_i {M : Mem} {b lo hi : Nat} {us : List Value} {x : Inst} {A : Option Addr} {n c : Nat} {l : List Gate} (N : Int) (h : instP.rd lo hi M x us) (hM : hi ≤ M.length) (hg : Sl gateR M A n l) (hn : n ≤ 1099511627776) (hb : b ≤ M.length) :
    Ctr Try.prog b 25 [.agg us.toArray, .slice A n c, iv N] M fun r M' => VoS (rgV x l N) M r M' := by
  have hl := instP.len h
  have ht : us.take 8 = us := List.take_of_length_le (by omega)
  first | (refine ctr_fn Try.func25 rfl Try.ntmps25 Try.results25 rfl rfl (by simp) ?_) | (refine ctr_fnC Try.func25 rfl Try.ntmps25 Try.results25 rfl (by simp) ?_)
  simp [hl, ht]
  refine awCall_det' (gatesCode_i N false (instP.app h _) (hg.keeps (keeps_app _)) hn) (by simp <;> omega) ?_
  by_cases hc : codeV x l N false = 0
  · obtain ⟨e1, e2, e3, e4, e5⟩ := codeV_ok hc
    have k3 := inB_iff.1 e3
    obtain ⟨K, rfl⟩ := Int.eq_ofNat_of_zero_le k3.1
    simp [hc, hl, ht]
    refine awCall_ctr ((gates_i (instP.app h _) e1 (hg.keeps (keeps_app _)) e2 (by omega) (by simp; omega)).weaken (by simp <;> omega)) ?_
    rintro v M' ⟨hA, hk⟩
    have hv : rgV x l K = (gatesL x l K 4, 0) := by unfold rgV; rw [if_pos hc]; rfl
    rw [hv]
    try simp
    have := hk.len
    exact ⟨_, rfl, Acc.low hA (by simp), ⟨by simp at this; omega, fun i s _ hs => hk.get ((keeps_app _).get hs)⟩⟩
  · simp [hc]
    have hv : rgV x l N = ([], codeV x l N false) := by unfold rgV; rw [if_neg hc]
    rw [hv]
    exact ⟨_, rfl, .nil, Same.appS _ _⟩
end Go.Proofs.Ytimijeeihicohaa

namespace Go.Proofs.Ytimijeeihicohaa
open Go.RowKit
set_option linter.unusedVariables false
set_option linter.unusedSimpArgs false
theorem mkC_el {n t : Nat} {p : Nat → Bool} {f : Nat → Int} (h : t < n) : el (mkC n p f) t = if p t = true then f t else 0 := by
  unfold mkC el
  simp only [List.getD_eq_getElem?_getD, List.getElem?_map]
  rw [List.getElem?_range h]
  rfl
theorem mkC_at {n t : Nat} {p : Nat → Bool} {f : Nat → Int} (h : t < n) : atL (mkC n p f) (t : Int) = if p t = true then f t else 0 := by
  unfold atL
  rw [if_pos ⟨by omega, by rw [mkC_len]; omega⟩, Int.toNat_natCast, mkC_el h]
theorem frame_pre {x : Inst} {l : List Gate} {N N' t : Nat} (h : t < N) (h' : N ≤ N') : frameV (ctlL x l N') t = frameV (ctlL x l N) t := by
  unfold frameV ctlL
  simp only [List.map_cons, List.map_nil]
  rw [mkC_at h, mkC_at h, mkC_at h, mkC_at (Nat.lt_of_lt_of_le h h'), mkC_at (Nat.lt_of_lt_of_le h h'), mkC_at (Nat.lt_of_lt_of_le h h')]
theorem rend_pre {p : Patch} {a b : List (List Int)} : ∀ T : Nat, (∀ t, t < T → frameV a t = frameV b t) → rendS p a T = rendS p b T
  | 0, _ => rfl
  | T + 1, h => by
    have ih := rend_pre (p := p) T fun t ht => h t (by omega)
    simp only [rendS]
    rw [ih, h T (Nat.lt_succ_self T)]
theorem rend_take {p : Patch} {a : List (List Int)} (T : Nat) : ∀ d : Nat, (rendS p a (T + d)).1.take T = (rendS p a T).1
  | 0 => by rw [Nat.add_zero, List.take_of_length_le (by rw [rendS_len]; exact Nat.le_refl _)]
  | d + 1 => by
    rw [← Nat.add_assoc, rendS]
    rw [List.take_append_of_le_length (by rw [rendS_len]; omega)]
    exact rend_take T d
theorem voL_pre {x : Inst} {l : List Gate} {N N' : Nat} (h : N ≤ N') : (voL x l N').take N = voL x l N := by
  unfold voL
  obtain ⟨d, rfl⟩ := Nat.exists_eq_add_of_le h
  rw [rend_take, rend_pre N fun t ht => frame_pre ht h]
theorem atL_take {a : List Int} {N i : Nat} (h : i < N) : atL (a.take N) (i : Int) = atL a (i : Int) := by
  unfold atL
  by_cases hi : i < a.length
  · rw [if_pos ⟨by omega, by rw [List.length_take]; omega⟩, if_pos ⟨by omega, by omega⟩]
    simp [el, List.getElem?_take, h]
  · rw [if_neg (by rw [List.length_take]; omega), if_neg (by omega)]
theorem addL_take {a b : List Int} {N : Nat} (h : a.length = b.length) (hN : N ≤ a.length) : (addL a b).take N = addL (a.take N) (b.take N) := by
  have h1 : max a.length b.length = a.length := by omega
  have h2 : max (a.take N).length (b.take N).length = N := by simp only [List.length_take]; omega
  unfold addL
  rw [h1, h2, ← List.map_take, List.take_range, Nat.min_eq_left hN]
  apply List.map_congr_left
  intro i hi
  have hi' := List.mem_range.1 hi
  rw [atL_take hi', atL_take hi']
/-- The gates' signals: what is asked for longer begins with the shorter. -/
theorem gatesL_pre {x : Inst} {l : List Gate} {N N' : Nat} (h : N ≤ N') : ∀ v, (gatesL x l N' v).take N = gatesL x l N v
  | 0 => by simp only [gatesL, List.take_replicate, Nat.min_eq_left h]
  | v + 1 => by
    have ih := gatesL_pre (x := x) (l := l) h v
    simp only [gatesL]
    split
    · exact ih
    · rw [addL_take (by rw [gatesL_len, voL_len]) (by rw [gatesL_len]; exact h), ih, voL_pre h]
end Go.Proofs.Ytimijeeihicohaa

namespace Go.Proofs.Ytimijeeihicohaa
open Go.RowKit
set_option linter.unusedVariables false
set_option linter.unusedSimpArgs false
def smC (x : Int) : Prop := -2147483648 ≤ x ∧ x ≤ 2147483647
theorem smC_smp (n : Int) : smC (smp n) := smp_bd n
theorem smC_zero : smC 0 := ⟨by omega, by omega⟩
/-- Every element is a sample. -/
def AllB (l : List Int) : Prop := ∀ n : Nat, smC (el l n)
theorem AllB.nil : AllB [] := fun n => by simpa [el] using smC_zero
theorem AllB.cons {a : Int} {l : List Int} (ha : smC a) (hl : AllB l) : AllB (a :: l) := fun n => by
  rcases n with _ | n
  · exact ha
  · exact hl n
theorem AllB.one {a : Int} (ha : smC a) : AllB [a] := .cons ha .nil
theorem AllB.of {l : List Int} (h : ∀ x, x ∈ l → smC x) : AllB l := fun n => by
  by_cases hn : n < l.length
  · exact h _ (el_mem hn)
  · have : el l n = 0 := by simp [el, List.getElem?_eq_none (show l.length ≤ n by omega)]
    rw [this]
    exact smC_zero
theorem AllB.mem {l : List Int} (h : AllB l) {x : Int} (hx : x ∈ l) : smC x := by
  obtain ⟨i, hi, rfl⟩ := List.getElem_of_mem hx
  rw [el_eq hi]
  exact h i
theorem AllB.app {a b : List Int} (ha : AllB a) (hb : AllB b) : AllB (a ++ b) := .of fun x hx => by
  rcases List.mem_append.1 hx with h | h
  · exact ha.mem h
  · exact hb.mem h
theorem AllB.set {l : List Int} {i : Nat} {a : Int} (h : AllB l) (ha : smC a) : AllB (l.set i a) := .of fun x hx => by
  rcases List.mem_or_eq_of_mem_set hx with h' | rfl
  · exact h.mem h'
  · exact ha
theorem AllB.rep {n : Nat} : AllB (List.replicate n 0) := .of fun x hx => by rw [(List.mem_replicate.1 hx).2]; exact smC_zero
theorem AllB.drop {l : List Int} {n : Nat} (h : AllB l) : AllB (l.drop n) := .of fun x hx => h.mem (List.mem_of_mem_drop hx)
/-- What a node's numbers have to be. -/
structure NodeS (x : Node) : Prop where
  const : x.k = 2 ∨ x.k = 12 ∨ x.k = 14 → smC x.a
  clip : x.k = 11 → 0 ≤ x.a ∧ x.a ≤ 2147483647
theorem nodeS_of {p : Patch} {x : Node} (h : nodeF p x = true) : NodeS x := by
  unfold nodeF at h
  rw [nodeB_eq] at h
  unfold nodeB2 at h
  simp only [Bool.and_eq_true] at h
  have ha := h.1.2.1
  refine ⟨fun hk => ?_, fun hk => ?_⟩
  · rcases hk with hk | hk | hk <;> (rw [show aB x p.tabs.length = sampleB x.a by unfold aB; simp [hk, hasAL]] at ha; exact inB_iff.1 ha)
  · rw [show aB x p.tabs.length = inB x.a 0 2147483647 by unfold aB; simp [hk]] at ha
    exact inB_iff.1 ha
theorem div_sm {v : Int} {n : Nat} (h : smC v) : smC (v / 2 ^ n) := by
  have hp : (0 : Int) < 2 ^ n := Int.pow_pos (by omega)
  obtain ⟨h1, h2⟩ := h
  refine ⟨?_, ?_⟩
  · rw [Int.le_ediv_iff_mul_le hp]
    generalize (2 : Int) ^ n = p at hp
    omega
  · by_cases hv : 0 ≤ v
    · exact Int.le_trans (Int.ediv_le_self _ hv) h2
    · have := Int.ediv_neg_of_neg_of_pos (show v < 0 by omega) hp
      omega
theorem inV_sm {x : Node} {fr vals : List Int} (hf : AllB fr) (hv : AllB vals) : AllB (inV x fr vals) := by
  unfold inV
  split
  · exact .one (hf _)
  · refine .of fun y hy => ?_
    obtain ⟨f, _, rfl⟩ := List.mem_map.1 hy
    exact hv _
theorem outV_sm {x : Node} {tabs : List (List Int)} {i s : List Int} (hx : NodeS x) (ht : ∀ n : Nat, AllB (el tabs n)) (hi : AllB i) (hs : AllB s) : smC (outV x tabs i s) := by
  unfold outV
  by_cases h : x.k = 1
  · rw [if_pos h]
    exact hi _
  rw [if_neg h]
  clear h
  by_cases h : x.k = 2
  · rw [if_pos h]
    exact hx.const (.inl h)
  rw [if_neg h]
  clear h
  by_cases h : x.k = 3
  · rw [if_pos h]
    exact smC_smp _
  rw [if_neg h]
  clear h
  by_cases h : x.k = 4
  · rw [if_pos h]
    exact smC_smp _
  rw [if_neg h]
  clear h
  by_cases h : x.k = 5
  · rw [if_pos h]
    exact smC_smp _
  rw [if_neg h]
  clear h
  by_cases h : x.k = 6
  · rw [if_pos h]
    exact hs _
  rw [if_neg h]
  clear h
  by_cases h : x.k = 7
  · rw [if_pos h]
    exact smC_smp _
  rw [if_neg h]
  clear h
  by_cases h : x.k = 8
  · rw [if_pos h]
    exact smC_smp _
  rw [if_neg h]
  clear h
  by_cases h : x.k = 9
  · rw [if_pos h]
    exact smC_smp _
  rw [if_neg h]
  clear h
  by_cases h : x.k = 10
  · rw [if_pos h]
    exact div_sm (hi _)
  rw [if_neg h]
  clear h
  by_cases h : x.k = 11
  · rw [if_pos h]
    have := hx.clip h; unfold smC; omega
  rw [if_neg h]
  clear h
  by_cases h : x.k = 12
  · rw [if_pos h]
    exact hs _
  rw [if_neg h]
  clear h
  by_cases h : x.k = 13
  · rw [if_pos h]
    unfold lookV; exact ht _ _
  rw [if_neg h]
  clear h
  by_cases h : x.k = 14
  · rw [if_pos h]
    exact hs _
  rw [if_neg h]
  clear h
  by_cases h : x.k = 15
  · rw [if_pos h]
    split <;> exact hi _
  rw [if_neg h]
  clear h
  by_cases h : x.k = 16
  · rw [if_pos h]
    split
    · exact hi _
    · exact hs _
  rw [if_neg h]
  clear h
  exact smC_smp _
theorem nextV_sm {x : Node} {i s : List Int} {o : Int} (hi : AllB i) (hs : AllB s) (ho : smC o) : AllB (nextV x i s o) := by
  unfold nextV
  repeat' split
  · exact hs.drop.app (.one (hi _))
  · exact hs.drop.app (.one ho)
  · exact .one ho
  · exact .one (hi _)
  · exact .one (smC_smp _)
  · refine .one ?_
    unfold noiseV
    split <;> exact smC_smp _
  · exact .nil
theorem startV_sm {x : Node} (hx : NodeS x) : AllB (startV x) := by
  unfold startV
  repeat' split
  · exact .rep
  · exact .rep
  · exact .one smC_zero
  · rename_i h; exact .one (hx.const (by omega))
  · exact .nil
theorem curV_sm {p : Patch} {O : List Int} {cs : List (List Int)} {fr v0 : List Int} (hn : ∀ n : Nat, NodeS (el p.nodes n)) (ht : ∀ n : Nat, AllB (el p.tabs n)) (hc : ∀ n : Nat, AllB (el cs n)) (hf : AllB fr) (h0 : AllB v0) : ∀ q, AllB (curV p O cs fr v0 q)
  | 0 => h0
  | q + 1 => (curV_sm hn ht hc hf h0 q).set (outV_sm (hn _) ht (inV_sm hf (curV_sm hn ht hc hf h0 q)) (hc _))
theorem rendS_sm {p : Patch} {ins : List (List Int)} (hn : ∀ n : Nat, NodeS (el p.nodes n)) (ht : ∀ n : Nat, AllB (el p.tabs n)) (hi : ∀ t : Nat, AllB (frameV ins t)) : ∀ t, AllB (rendS p ins t).1 ∧ ∀ n : Nat, AllB (el (rendS p ins t).2 n)
  | 0 => ⟨.nil, fun n => by
    simp only [rendS]
    by_cases h : n < p.nodes.length
    · have : el (p.nodes.map startV) n = startV (el p.nodes n) := by simp [el, h]
      rw [this]
      exact startV_sm (hn n)
    · have : el (p.nodes.map startV) n = [] := by simp [el, List.getElem?_eq_none (show p.nodes.length ≤ n by omega)]; rfl
      rw [this]
      exact .nil⟩
  | t + 1 => by
    obtain ⟨h1, h2⟩ := rendS_sm hn ht hi t
    have hv : AllB (valsV p (rendS p ins t).2 (frameV ins t)) := curV_sm hn ht h2 (hi t) .rep _
    refine ⟨h1.app (.one (hv _)), fun n => ?_⟩
    simp only [rendS, nextC]
    by_cases h : n < p.nodes.length
    · have : el ((List.range p.nodes.length).map fun k => nextV (el p.nodes k) (inV (el p.nodes k) (frameV ins t) (valsV p (rendS p ins t).2 (frameV ins t))) (el (rendS p ins t).2 k) (el (valsV p (rendS p ins t).2 (frameV ins t)) k)) n = nextV (el p.nodes n) (inV (el p.nodes n) (frameV ins t) (valsV p (rendS p ins t).2 (frameV ins t))) (el (rendS p ins t).2 n) (el (valsV p (rendS p ins t).2 (frameV ins t)) n) := by
        simp [el, h]
      rw [this]
      exact nextV_sm (inV_sm (hi t) hv) (h2 n) (hv n)
    · have : el ((List.range p.nodes.length).map fun k => nextV (el p.nodes k) (inV (el p.nodes k) (frameV ins t) (valsV p (rendS p ins t).2 (frameV ins t))) (el (rendS p ins t).2 k) (el (valsV p (rendS p ins t).2 (frameV ins t)) k)) n = [] := by
        simp [el, List.getElem?_eq_none, h]; rfl
      rw [this]
      exact .nil
theorem patS {p : Patch} (h : patB p = true) : (∀ n : Nat, NodeS (el p.nodes n)) ∧ ∀ n : Nat, AllB (el p.tabs n) := by
  unfold patB formB tablesB at h
  simp only [Bool.and_eq_true, List.all_eq_true] at h
  refine ⟨fun n => ?_, fun n => ?_⟩
  · by_cases hn : n < p.nodes.length
    · exact nodeS_of (h.1.2 _ (el_mem hn))
    · have : el p.nodes n = default := by simp [el, List.getElem?_eq_none (show p.nodes.length ≤ n by omega)]
      rw [this]
      have : (default : Node).k = 0 := rfl
      exact ⟨fun h => by omega, fun h => by omega⟩
  · by_cases hn : n < p.tabs.length
    · have := h.1.1.1.1.1.2.1 _ (el_mem hn)
      unfold tableB areSB at this
      simp only [Bool.and_eq_true, List.all_eq_true] at this
      exact .of fun x hx => inB_iff.1 (this.2 x hx)
    · have : el p.tabs n = [] := by simp [el, List.getElem?_eq_none (show p.tabs.length ≤ n by omega)]; rfl
      rw [this]
      exact .nil
theorem mkC_sm {n : Nat} {p : Nat → Bool} {f : Nat → Int} (h : ∀ t, t < n → p t = true → smC (f t)) : ∀ t : Nat, smC (atL (mkC n p f) (t : Int)) := fun t => by
  unfold atL
  split
  · rename_i ht
    rw [mkC_len] at ht
    have hlt : t < n := by omega
    have : el (mkC n p f) (Int.toNat (t : Int)) = if p t = true then f t else 0 := by simp [el, mkC, hlt]
    rw [this]
    split
    · rename_i hp; exact h t hlt hp
    · exact smC_zero
  · exact smC_zero
theorem voL_sm {x : Inst} {l : List Gate} {N : Nat} (hx : instB x = true) (hok : okG l = true) (hN : N ≤ 4000) : AllB (voL x l N) := by
  have hxB := hx
  unfold instB at hxB
  simp only [Bool.and_eq_true] at hxB
  obtain ⟨hn, ht⟩ := patS hxB.1
  have hEB := hxB.2.2.2.1
  have hs := okG_sorted hok
  have hg : ∀ t : Nat, allP l t = true → gateB (gateL l t) = true ∧ (gateL l t).s ≤ t := fun t h => by
    have h0 : 0 < cidx l t := by unfold allP at h; simpa using h
    have hle := cidx_le l t
    have hlt : cidx l t - 1 < l.length := by omega
    unfold okG at hok
    simp only [Bool.and_eq_true, decide_eq_true_eq] at hok
    exact ⟨(hok.1 _ hlt).1, (cidx_lt hs hlt).1 (by omega)⟩
  refine (rendS_sm hn ht (fun t => ?_) N).1
  unfold frameV ctlL
  refine .of fun y hy => ?_
  simp only [List.map_cons, List.map_nil, List.mem_cons, List.not_mem_nil, or_false] at hy
  rcases hy with rfl | rfl | rfl
  · exact mkC_sm (fun u _ _ => smC_smp _) t
  · refine mkC_sm (fun u hu hp => ?_) t
    have := (hg u hp).1
    unfold gateB at this
    simp only [Bool.and_eq_true, decide_eq_true_eq, inB_iff] at this
    unfold smC ctl1
    omega
  · refine mkC_sm (fun u hu hp => ?_) t
    obtain ⟨h1, h2⟩ := hg u hp
    unfold gateB at h1
    simp only [Bool.and_eq_true, decide_eq_true_eq, inB_iff] at h1
    have := levelV_bd hEB (gate := (gateL l u).e - (gateL l u).s) (a := u - (gateL l u).s) (by omega) (by omega)
    unfold smC ctl2
    omega
end Go.Proofs.Ytimijeeihicohaa

namespace Go.Proofs.Ytimijeeihicohaa
open Go.RowKit
set_option linter.unusedVariables false
set_option linter.unusedSimpArgs false
set_option maxRecDepth 100000
attribute [local simp] List.getElem?_cons_zero
attribute [local irreducible] awCond awCall awLoop awDraw ow retQ retC resQ Keeps
theorem v8Same_x {M : Mem} {A B : Option Addr} {n c m d : Nat} {x y : List Int} (h3 : Sl intR M A n x) (g3 : Sl intR M B m y) (hn : n ≤ 1048576) : Det Try.prog M.length 29 [.slice A n c, .slice B m d] M (.bool (decide (x = y))) M := by
  have hlx := h3.1
  have hly := g3.1
  first | (refine det_fn Try.func29 rfl Try.ntmps29 Try.results29 rfl rfl rfl (by simp) ?_) | (refine det_fnC Try.func29 rfl Try.ntmps29 Try.results29 rfl rfl (by simp) ?_)
  simp
  by_cases hnm : n = m
  case neg =>
    have : x ≠ y := fun e => hnm (by rw [← hlx, ← hly, e])
    have e1 : ¬ (n : Int) = m := by omega
    simp [e1, this, Keeps.refl, hnm]
  subst hnm
  simp
  refine awLoop_T (fun m T M' => ∃ k : Nat, k + m = n ∧ M' = M ∧ look T 5 = some (iv k) ∧ look T 0 = some (.slice A n c) ∧ look T 1 = some (.slice B n d) ∧ x.take k = y.take k) n ⟨0, by omega, rfl, by simp, by simp, by simp, by simp⟩ ?_
  rintro m T M' ⟨k, hm, rfl, t5, t0, t1, hk⟩
  by_cases hlt : k < n
  · obtain ⟨id, off, rfl, he, hc⟩ := h3.at_ hlt
    obtain ⟨id', off', rfl, he', hc'⟩ := g3.at_ hlt
    have c1 := int_cell hc
    have c2 := int_cell hc'
    simp only [Nat.mul_one] at c1 c2
    simp (disch := omega) [t5, t0, hlt]
    refine awDraw_E 8 [[],[],[0,1],[2,0,1],[],[],[4,5],[6,4,5],[3,2,0,1,7,6,4,5]] (by kernel_rfl) (by kernel_rfl) ?_
    simp (disch := omega) [t5, t0, t1, hlt, wrap_in, c1, c2, he, he']
    by_cases hxy : el x k = el y k
    · simp (disch := omega) [hxy, t5, t0, t1, wrap_in]
      exact lpI (m - 1) (by omega) ⟨k + 1, by omega, rfl, by simp, by simp [t0], by simp [t1], by rw [take_el (by omega), take_el (by omega), hk, hxy]⟩
    · simp [hxy]
      exact ⟨fun e => hxy (by rw [e]), Keeps.refl _⟩
  · obtain rfl : k = n := by omega
    rw [List.take_of_length_le (by omega), List.take_of_length_le (by omega)] at hk
    simp [t5, t0, hk, Keeps.refl]
theorem AddSignals_x {M : Mem} {lo hi lo' hi' : Nat} {u v : Value} {a b : List Int} (ha : SlV intP lo hi M u a) (hb : SlV intP lo' hi' M v b) (hla : a.length ≤ 4000) (hlb : b.length ≤ 4000) (sa : areSB a = true) (sb : areSB b = true) :
    Det Try.prog M.length 28 [u, v] M (.tuple #[.slice (some ⟨M.length, 0, none⟩) (addL a b).length (addL a b).length, iv 0]) (M ++ [.live (rowI (addL a b))]) := by
  refine Ctr.det ?_
  first | (refine ctr_fn Try.func28 rfl Try.ntmps28 Try.results28 rfl rfl (by simp) ?_) | (refine ctr_fnC Try.func28 rfl Try.ntmps28 Try.results28 rfl (by simp) ?_)
  simp
  refine awCall_det' (l03Ok_s ha hla) (Nat.le_refl _) ?_
  simp [sa]
  refine awCall_det' (l03Ok_s hb hlb) (Nat.le_refl _) ?_
  simp [sb]
  refine awCall_det' (l03Add_x ha hb hla hlb) (Nat.le_refl _) ?_
  simp
theorem zrow_rep : ∀ K : Nat, zrow [iv 0] K = cellsL intR (List.replicate K 0)
  | 0 => rfl
  | K + 1 => by rw [zrow_succ, List.replicate_succ, cellsL_cons, zrow_rep K]; rfl
theorem areSB_of {l : List Int} (h : AllB l) : areSB l = true := by
  unfold areSB
  rw [List.all_eq_true]
  exact fun x hx => inB_iff.2 (h.mem hx)
theorem gatesL_sm {x : Inst} {l : List Gate} {N : Nat} : ∀ v, AllB (gatesL x l N v)
  | 0 => .rep
  | v + 1 => by
    rw [gatesL]
    split
    · exact gatesL_sm v
    · refine .of fun y hy => ?_
      unfold addL at hy
      obtain ⟨i, _, rfl⟩ := List.mem_map.1 hy
      exact smC_smp _
theorem Same.toK {M M' : Mem} (h : Same M.length M M') : Keeps M M' := h.keeps (Keeps.refl _) (Nat.le_refl _)
set_option maxHeartbeats 4000000 in
theorem lawPerform_a {M : Mem} {A B : Option Addr} {n c m d : Nat} {cs ds : List Int} (h : Sl codeR M A n cs) (hcs : ∀ x, x ∈ cs → 0 ≤ x ∧ x ≤ 255) (h2 : Sl codeR M B m ds) (hds : ∀ x, x ∈ ds → 0 ≤ x ∧ x ≤ 255) :
    Det Try.prog M.length 6 [.slice A n c, .slice B m d] M (.bool true) M := by
  have K0 := Keeps.refl M
  by_cases hlong : (decide (1048576 < n) || decide (1048576 < m)) = true
  · first | (refine det_fn Try.func6 rfl Try.ntmps6 Try.results6 rfl rfl rfl (by simp) ?_) | (refine det_fnC Try.func6 rfl Try.ntmps6 Try.results6 rfl rfl (by simp) ?_)
    simp
    refine awCall_det' v8Long_a (by omega) ?_
    simp [hlong, K0]
  have hn : n ≤ 1048576 := by simp at hlong; omega
  have hm : m ≤ 1048576 := by simp at hlong; omega
  simp only [Bool.not_eq_true] at hlong
  first | (refine det_fn Try.func6 rfl Try.ntmps6 Try.results6 rfl rfl rfl (by simp) ?_) | (refine det_fnC Try.func6 rfl Try.ntmps6 Try.results6 rfl rfl (by simp) ?_)
  simp
  refine awCall_det' v8Long_a (by omega) ?_
  simp [hlong]
  refine awCall_ctr (E8Instrument_b h hn hcs) ?_
  rintro r M1 ⟨x, us, rfl, hx, hu8, hu1, hxB, k1⟩
  have n1 := k1.len
  obtain ⟨q, hq⟩ : ∃ q, q = M1.length := ⟨_, rfl⟩
  have qp := put_box (b := M.length) (M := M1) (t := true) (e := 53) (z := 8) (cs := [iv 0, .slice none 0 0, .slice none 0 0, .slice none 0 0, iv 0, .slice none 0 0, iv 0, .slice none 0 0]) (vs := us) (by omega) (by simpa using hu8) hu1
  have ht : us.take 8 = us := List.take_of_length_le (by omega)
  simp [hu8, ht, qp]
  obtain ⟨M2, hM2⟩ : ∃ M2, M2 = M1 ++ [Slot.live ⟨us, true, true, 53, 8⟩] := ⟨_, rfl⟩
  rw [← hM2, ← hq]
  have K2 : Keeps M M2 := by rw [hM2]; exact k1.trans (keeps_app _)
  have b2 : M2[q]? = some (.live ⟨us, true, true, 53, 8⟩) := by rw [hM2, hq]; exact getElem?_snoc_eq
  have hx2 : instP.rd M.length q M2 x us := by rw [hM2, hq]; exact instP.app hx _
  have n2 : M2.length = q + 1 := by rw [hM2, hq]; simp
  clear hM2 hx qp
  refine awCall_ctr ((E8Gates_a (h2.keeps K2) hm hds).weaken (by omega)) ?_
  rintro r M3 ⟨gl, r3, k3, hgl, hD⟩
  have n3 := k3.len
  obtain ⟨A3, n3', c3, rfl, s3⟩ := r3.sl
  try simp
  refine awCall_ctr ((v8At_a 0 4 (h.keeps (K2.trans k3)) hcs (by omega) (by omega) hn).weaken (by omega)) ?_
  rintro r M3' ⟨rfl, V, rfl, v0, v1⟩
  obtain ⟨V', rfl⟩ := Int.eq_ofNat_of_zero_le v0
  try simp (disch := omega) [wrap_in]
  refine awCall_ctr ((AllocateVoices_s (1 + V') s3 (by have := s3.1; omega)).weaken (by omega)) ?_
  rintro r M4 ⟨w0, rfl, r4, k4⟩
  have n4 := k4.len
  obtain ⟨y, hG⟩ := hD.alloc (V := 1 + V') (by omega)
  have hal : alV gl (1 + (V' : Int)) = ((allocP (1 + V') gl).1, (allocP (1 + V') gl).2, 0) := by
    have hV : inB (1 + (V' : Int)) 1 4 = true := inB_iff.2 (by omega)
    unfold alV
    rw [hD.ok hgl, hV, show (1 + (V' : Int)).toNat = 1 + V' by omega]
    rfl
  have hlen := (allocP_len (1 + V') gl ([], 0)).1
  rw [hal] at r4
  replace r4 : OwL gateR M3'.length M4.length M4 w0 (allocP (1 + V') gl).1 := r4
  replace hlen : (allocP (1 + V') gl).1.length ≤ gl.length := by simpa [allocP] using hlen
  try simp [hal]
  generalize (allocP (1 + V') gl).1 = out at r4 hG hlen
  have K4 := (K2.trans k3).trans k4
  refine awCall_ctr ((v8At_a 0 50 (h2.keeps K4) hds (by omega) (by omega) hm).weaken (by omega)) ?_
  rintro r M5 ⟨rfl, N, rfl, N0, N1⟩
  have b5 := (k3.trans k4).get b2
  have c5 := cells_hr (n := 8) b5 hu8.symm
  simp only at c5
  have hx5 := instP.keeps (instP.keeps hx2 k3) k4
  obtain ⟨A5, n5', c5', rfl, s5⟩ := r4.sl
  have hl5 := s5.1
  try simp
  try simp [c5, hu8, ht]
  obtain ⟨K, rfl⟩ := Int.eq_ofNat_of_zero_le N0
  have hok : okG out = true := hG.ok (by omega)
  have hrg : ∀ J : Nat, J ≤ 4000 → rgV x out (J : Int) = (gatesL x out J 4, 0) := fun J hJ => by
    have hN : inB (J : Int) 0 4000 = true := inB_iff.2 (by omega)
    have hc : codeV x out (J : Int) false = 0 := by unfold codeV; simp [hxB, hok, hN, hG.playB]
    unfold rgV
    rw [if_pos hc]
    rfl
  refine awCall_ctr (RenderGates_i K hx5 (by omega) s5 (by omega) (by omega)) ?_
  rintro r M6 ⟨u6, rfl, hA6, S6⟩
  rw [hrg K (by omega)] at hA6 ⊢
  replace hA6 : Acc intR 2 M5.length M6 u6 (gatesL x out K 4) := hA6
  obtain ⟨A6, n6', c6, rfl, hl6, -⟩ := id hA6
  rw [gatesL_len] at hl6
  subst hl6
  have K6 := K4.trans S6.toK
  simp (disch := omega)
  refine ⟨by omega, ?_⟩
  obtain ⟨M7, hM7⟩ : ∃ M7, M7 = M6 ++ [Slot.live ⟨zrow [iv 0] K, true, true, 2, 1⟩] := ⟨_, rfl⟩
  rw [← hM7]
  have k67 : Keeps M6 M7 := by rw [hM7]; exact keeps_app _
  have hA7 : Acc intR 2 M6.length M7 (.slice (some ⟨M6.length, 0, none⟩) K K) (gatesL x out K 0) := by
    rw [hM7]
    exact ⟨_, K, K, rfl, by simp [gatesL], .inr ⟨M6.length, true, rfl, Nat.le_refl _, by rw [getElem?_snoc_eq, zrow_rep]; rfl⟩⟩
  have n67 := k67.len
  have nS := S6.1
  have K7 := K6.trans k67
  have k57 := S6.toK.trans k67
  have b7 := k57.get b5
  have hx7 := instP.keeps hx5 k57
  have s7 := s5.keeps k57
  have hA67 := hA6.keeps k67
  clear hM7
  refine awLoop_T (fun m T M' => ∃ (v : Nat) (su : Value), v + m = 4 ∧ Keeps M7 M' ∧ Acc intR 2 M6.length M' su (gatesL x out K v) ∧ look T 13 = some (iv v) ∧ look T 12 = some su ∧ look T 11 = some (iv 0) ∧ look T 10 = some (.slice A6 K c6) ∧ look T 9 = some (iv K) ∧ look T 6 = some (.slice A5 n5' c5') ∧ look T 5 = some (.pointer (some ⟨q, 0, none⟩))) 4 ⟨0, _, by omega, Keeps.refl _, hA7, by simp, by simp, by simp, by simp, by simp, by simp, by simp⟩ ?_
  rintro m T M8 ⟨v, su, hv, k78, hA8, f13, f12, f11, f10, f9, f6, f5⟩
  have n8 := k78.len
  have b8 := k78.get b7
  have c8 := cells_hr (n := 8) b8 hu8.symm
  simp only at c8
  have hx8 := instP.keeps hx7 k78
  have s8 := s7.keeps k78
  have hW8 := hA67.keeps k78
  have K8 := K7.trans k78
  obtain ⟨As, ns, cs', rfl, hns, -⟩ := id hA8
  rw [gatesL_len] at hns
  subst hns
  rcases m with _ | m
  · obtain rfl : v = 4 := by omega
    have e : ¬ (4 : Int) < 4 := by omega
    simp (disch := omega) [f13, f5, f6, f9, c8, hu8, ht, wrap_in]
    have e7 : rgV x out ((K : Int) + 7) = (gatesL x out (K + 7) 4, 0) := by
      have := hrg (K + 7) (by omega)
      rwa [show ((K + 7 : Nat) : Int) = (K : Int) + 7 by omega] at this
    refine awCall_ctr (RenderGates_i ((K : Int) + 7) hx8 (by omega) s8 (by omega) (by omega)) ?_
    rintro r M9 ⟨u9, rfl, hA9, S9⟩
    rw [e7] at hA9 ⊢
    replace hA9 : Acc intR 2 M8.length M9 u9 (gatesL x out (K + 7) 4) := hA9
    obtain ⟨A9, n9', c9, rfl, hl9, -⟩ := id hA9
    rw [gatesL_len] at hl9
    subst hl9
    have k89 := S9.toK
    have n9 := k89.len
    obtain ⟨_, _, _, e1, _, sS, _⟩ := (hA8.keeps k89).sl
    cases e1
    obtain ⟨_, _, _, e1, _, sW, _⟩ := (hW8.keeps k89).sl
    cases e1
    obtain ⟨_, _, _, e1, _, sL, _⟩ := hA9.sl
    cases e1
    simp (disch := omega) [f12, f10]
    refine awCall_det' (v8Same_x sS sW (by omega)) (by omega) ?_
    obtain ⟨id9, off9, rfl, he9, hc9⟩ := sL.2 (by omega)
    have sT := sL.take (m := K) (by omega)
    rw [gatesL_pre (by omega)] at sT
    have hk7 : ((K : Int) ≤ K + 7) := by omega
    have hk7' : K ≤ K + 7 := by omega
    simp (disch := omega) [f12, f11, f10, f9, wrap_in, he9, hk7, hk7']
    refine awCall_det' (v8Same_x sT sW (by omega)) (by omega) ?_
    simp [K8.trans k89]
  have e : (v : Int) < 4 := by omega
  have e' : v < 4 := by omega
  have hvV : voiceV out (v : Int) = (voiceL out v, 0) := by
    have hV : inB (v : Int) 0 3 = true := inB_iff.2 (by omega)
    unfold voiceV
    rw [hok, hV]
    rfl
  simp (disch := omega) [f13, f6, e, e']
  refine awCall_ctr ((VoiceGates_s v s8 (by omega)).weaken (by omega)) ?_
  rintro r M9 ⟨pv, rfl, rp, kp⟩
  rw [hvV] at rp ⊢
  replace rp : OwL gateR M8.length M9.length M9 pv (voiceL out v) := rp
  obtain ⟨Ap, np, cp, rfl, sp⟩ := rp.sl
  have hnp := sp.1
  have n9 := kp.len
  have hvl : (voiceL out (v : Int)).length ≤ out.length := List.length_filter_le _ _
  try simp
  by_cases hp0 : voiceL out (v : Int) = []
  · have hnp0 : np = 0 := by rw [← hnp, hp0]; rfl
    subst hnp0
    simp (disch := omega) [f13, wrap_in]
    refine lpI m (by omega) ⟨v + 1, .slice As K cs', by omega, k78.trans kp, ?_, by simp, by simp [f12], by simp [f11], by simp [f10], by simp [f9], by simp [f6], by simp [f5]⟩
    rw [gatesL, if_pos hp0]
    exact hA8.keeps kp
  · have hnp0 : ¬ np = 0 := fun h => hp0 (List.eq_nil_of_length_eq_zero (by omega))
    have hnp1 : ¬ (np : Int) = 0 := by omega
    have c9 := cells_hr (n := 8) (kp.get b8) hu8.symm
    simp only at c9
    have hvo : voV x (voiceL out v) K = (voL x (voiceL out v) K, 0) := by
      have hN : inB (K : Int) 0 4000 = true := inB_iff.2 (by omega)
      have h1 : okG (voiceL out v) = true := hG.voice.ok (by omega)
      have h2 : playB (voiceL out v) = true := hG.voice.playB
      have h3 : oneB (voiceL out v) = true := by
        unfold oneB
        rw [List.all_eq_true]
        have hall : ∀ z, z ∈ voiceL out (v : Int) → z.o = v := fun z hz => by
          unfold voiceL at hz
          simpa using (List.mem_filter.1 hz).2
        intro z hz
        have h0 := hall _ (el_mem (l := voiceL out v) (i := 0) (by omega))
        exact decide_eq_true (by rw [hall z hz, h0])
      have hc : codeV x (voiceL out v) (K : Int) true = 0 := by unfold codeV; simp [hxB, h1, hN, h2, h3]
      unfold voV
      rw [if_pos hc]
      rfl
    simp (disch := omega) [f5, f9, c9, hu8, ht, hnp0, hnp1]
    refine awCall_ctr (RenderVoice_i K (instP.keeps hx8 kp) (by omega) sp (by omega) (by omega)) ?_
    rintro r M10 ⟨u10, rfl, hA10, S10⟩
    rw [hvo] at hA10 ⊢
    replace hA10 : Acc intR 2 M9.length M10 u10 (voL x (voiceL out v) K) := hA10
    obtain ⟨A10, n10', c10, rfl, hl10, -⟩ := id hA10
    rw [voL_len] at hl10
    subst hl10
    have k910 := S10.toK
    have n10 := k910.len
    have hA8' := (hA8.keeps kp).keeps k910
    simp (disch := omega) [f12]
    refine awCall_det' (AddSignals_x (hA8'.slv (by rw [gatesL_len]; omega)) (hA10.slv (by rw [voL_len]; omega)) (by rw [gatesL_len]; omega) (by rw [voL_len]; omega) (areSB_of (gatesL_sm v)) (areSB_of (voL_sm hxB (hG.voice.ok (by omega)) (by omega)))) (by omega) ?_
    have hlA : (addL (gatesL x out K v) (voL x (voiceL out v) K)).length = K := by rw [addL_len, gatesL_len, voL_len, Nat.max_self]
    rw [hlA]
    simp (disch := omega) [f12, f13, wrap_in]
    refine lpI m (by omega) ⟨v + 1, .slice (some ⟨M10.length, 0, none⟩) K K, by omega, ((k78.trans kp).trans k910).trans (keeps_app _), ?_, by simp, by simp, by simp [f11], by simp [f10], by simp [f9], by simp [f6], by simp [f5]⟩
    rw [gatesL, if_neg hp0]
    exact ⟨_, K, K, rfl, hlA, .inr ⟨M10.length, false, rfl, by omega, getElem?_snoc_eq⟩⟩
end Go.Proofs.Ytimijeeihicohaa
