/- The sum of the signals of voices. No conditions. -/
import Derived.Test.YtimijeeihicohaaGreatZzRg20
namespace Go.Proofs.YtimijeeihicohaaGreat
open Go.RowKit
set_option linter.unusedVariables false
set_option linter.unusedSimpArgs false
set_option maxRecDepth 100000
attribute [local simp] List.getElem?_cons_zero
attribute [local irreducible] awCond awCall awLoop awDraw ow retQ retC resQ Keeps
def addL (a b : List Int) : List Int := (List.range (max a.length b.length)).map fun i : Nat => smp (atL a i + atL b i)
theorem addL_len {a b : List Int} : (addL a b).length = max a.length b.length := by simp [addL]
theorem addL_el {a b : List Int} {i : Nat} (h : i < max a.length b.length) : el (addL a b) i = smp (atL a i + atL b i) := by
  unfold addL el
  simp only [List.getD_eq_getElem?_getD, List.getElem?_map]
  rw [List.getElem?_range h]
  rfl
def gatesL (x : Inst) (l : List Gate) (N : Nat) : Nat → List Int
  | 0 => List.replicate N 0
  | v + 1 => if voiceL l v = [] then gatesL x l N v else addL (gatesL x l N v) (voL x (voiceL l v) N)
theorem gatesL_len {x : Inst} {l : List Gate} {N : Nat} : ∀ v, (gatesL x l N v).length = N
  | 0 => by simp [gatesL]
  | v + 1 => by
    rw [gatesL]
    split
    · exact gatesL_len v
    · rw [addL_len, gatesL_len v, voL_len, Nat.max_self]
theorem okG_filter {l : List Gate} (q : Gate → Bool) (h : okG l = true) : okG (l.filter q) = true := by
  have hs := okG_sorted h
  have h' := h
  unfold okG at h' ⊢
  simp only [Bool.and_eq_true, decide_eq_true_eq] at h' ⊢
  obtain ⟨h1, h2⟩ := h'
  have hp : l.Pairwise fun a b => a.s ≤ b.s := by
    rw [List.pairwise_iff_getElem]
    intro i j hi hj hij
    rw [el_eq hi, el_eq hj]
    exact hs i j (by omega) hj
  have hf := hp.sublist (List.filter_sublist (p := q))
  rw [List.pairwise_iff_getElem] at hf
  refine ⟨fun i hi => ⟨?_, fun h0 => ?_⟩, Nat.le_trans (List.length_filter_le _ _) h2⟩
  · have hm : el (l.filter q) i ∈ l := (List.mem_filter.1 (el_mem hi)).1
    obtain ⟨j, hj, e⟩ := List.getElem_of_mem hm
    rw [← e, el_eq hj]
    exact (h1 j hj).1
  · have := hf (i - 1) i (by omega) hi (by omega)
    rw [el_eq, el_eq] at this
    exact this
theorem NewRow.acc {M M' : Mem} {v : Value} {l : List Int} (h : NewRow M v M' l.length (rowI l)) : Acc intR 2 M.length M' v l := by
  obtain ⟨q, m, t, rfl, h1, h2, -⟩ := h
  exact ⟨_, _, _, rfl, rfl, .inr ⟨q, t, rfl, h1, h2⟩⟩
theorem addTimes_x {M : Mem} {lo hi lo' hi' : Nat} {u v : Value} {a b : List Int} (ha : SlV intP lo hi M u a) (hb : SlV intP lo' hi' M v b) (hla : a.length ≤ 4000) (hlb : b.length ≤ 4000) :
    Det Tryz.prog M.length 105 [u, iv 1, v] M (.slice (some ⟨M.length, 0, none⟩) (addL a b).length (addL a b).length) (M ++ [.live (rowI (addL a b))]) := by
  refine Ctr.compact (rowI_plain _) ?_
  obtain ⟨A, n, c, rfl, hn, hn2, -, -⟩ := sl_take ha
  obtain ⟨B, m, d, rfl, hm, hm2, -, -⟩ := sl_take hb
  have hL : (addL a b).length = max n m := by rw [addL_len, hn, hm]
  first | (refine ctr_fn Tryz.func105 rfl Tryz.ntmps105 Tryz.results105 rfl rfl (by simp) ?_) | (refine ctr_fnC Tryz.func105 rfl Tryz.ntmps105 Tryz.results105 rfl (by simp) ?_)
  simp
  refine awCall_det' (size_ia (by omega)) (by omega) ?_
  try simp
  refine awCall_det' (size_ia (by omega)) (by omega) ?_
  have hmax : (if (n : Int) < m then (m : Int) else n) = ((max n m : Nat) : Int) := by
    split <;> omega
  simp only [maxV_int, gt_iff_lt, hmax, ow_some, op_max]
  try simp [hmax]
  obtain ⟨L, hLm⟩ : ∃ L, L = max n m := ⟨_, rfl⟩
  rw [← hLm] at hL
  have hmax' : max (n : Int) (m : Int) = (L : Int) := by omega
  try rw [hmax']
  rw [← hLm]
  refine awCall_det' (zeros_i L (by omega)) (by omega) ?_
  simp
  refine awLoop_T (fun q T M' => ∃ (k : Nat) (r : List Int), k + q = L ∧ Keeps M M' ∧ M'[M.length]? = some (.live ⟨cellsL intR r, true, true, 2, 1⟩) ∧ r.length = L ∧ (∀ j, j < k → el r j = el (addL a b) j) ∧ look T 17 = some (iv k) ∧ look T 16 = some (iv L) ∧ look T 7 = some (.slice (some ⟨M.length, 0, none⟩) L L) ∧ look T 0 = some (.slice A n c) ∧ look T 1 = some (iv 1) ∧ look T 2 = some (.slice B m d)) L
    ⟨0, List.replicate L 0, by omega, keeps_app _, by simp, by simp, fun j hj => by omega, by simp, by simp, by simp, by simp, by simp, by simp⟩ ?_
  rintro q T M1 ⟨k, r, hq, k1, rr, hrl, hr, t17, t16, t7, t0, t1, t2⟩
  have hl1 := k1.len
  by_cases hlt : k < L
  · have er : rowEsz M1 M.length = some 1 := by simp [rowEsz, rr]
    simp (disch := omega) [t17, t16, t7, t0, t1, t2, hlt, wrap_in]
    refine awCall_det' (at_i k (by omega) (ha.keeps k1)) (by omega) ?_
    try simp (disch := omega) [t17, t16, t7, t0, t1, t2, hlt, wrap_in]
    refine awCall_det' (at_i k (by omega) (hb.keeps k1)) (by omega) ?_
    try simp
    refine awCall_det' (Wrap_s _) (by omega) ?_
    have hy : smp (IntKind.i64.wrap (atL a k + IntKind.i64.wrap (atL b k))) = el (addL a b) k := by
      rw [addL_el (by omega), smp_wrap]
      refine smp_mod ?_
      rw [IntKind.wrap_i64]
      omega
    try rw [hy]
    have hp := put_rec (R := intR) (b := M.length) (a := el (addL a b) k) (off := k) (i := k) rr (by omega) (by omega) (by omega) rfl
    have hp' : putCells M.length M1 M.length k [Value.int IntKind.i64 (el (addL a b) k)] = _ := hp
    have lt1 := (List.getElem?_eq_some_iff.1 rr).1
    simp (disch := omega) [t17, t16, t7, t0, t1, t2, hlt, er, wrap_in, hp', hy]
    refine lpI (q - 1) (by omega) ⟨k + 1, r.set k (el (addL a b) k), by omega, keeps_set k1 (Nat.le_refl _), List.getElem?_set_self lt1, by simp [hrl], fun j hj => ?_, by simp, by simp [t16], by simp [t7], by simp [t0], by simp [t1], by simp [t2]⟩
    by_cases e : k = j
    · subst e
      rw [el_set_same _ (by omega)]
    · rw [el_set_other _ e]
      exact hr j (by omega)
  · obtain rfl : k = L := by omega
    have hre : r = addL a b := by
      apply List.ext_getElem
      · omega
      · intro j a' b'
        rw [el_eq, el_eq]
        exact hr j (by omega)
    subst hre
    simp (disch := omega) [t17, t16, t7, t0, t1, t2]
    exact ⟨newRow_in rfl (Nat.le_refl _) rr |> fun h => by rw [hL] at h ⊢; exact h, k1⟩
theorem l03Add_x {M : Mem} {lo hi lo' hi' : Nat} {u v : Value} {a b : List Int} (ha : SlV intP lo hi M u a) (hb : SlV intP lo' hi' M v b) (hla : a.length ≤ 4000) (hlb : b.length ≤ 4000) :
    Det Tryz.prog M.length 103 [u, v, iv 1] M (.slice (some ⟨M.length, 0, none⟩) (addL a b).length (addL a b).length) (M ++ [.live (rowI (addL a b))]) := by
  refine Ctr.compact (rowI_plain _) ?_
  obtain ⟨A, n, c, rfl, hn, hn2, -, -⟩ := sl_take ha
  obtain ⟨B, m, d, rfl, hm, hm2, -, -⟩ := sl_take hb
  have hL : (addL a b).length = max n m := by rw [addL_len, hn, hm]
  obtain ⟨L, hLm⟩ : ∃ L, L = max n m := ⟨_, rfl⟩
  rw [← hLm] at hL
  have hmax : max (n : Int) (m : Int) = (L : Int) := by omega
  first | (refine ctr_fn Tryz.func103 rfl Tryz.ntmps103 Tryz.results103 rfl rfl (by simp) ?_) | (refine ctr_fnC Tryz.func103 rfl Tryz.ntmps103 Tryz.results103 rfl (by simp) ?_)
  simp
  refine awCall_det' (l00Max_v _ _) (by simp) ?_
  rw [hmax]
  try simp
  refine awLoop_T (fun q T M' => ∃ (k : Nat) (r : Value), k + q = L ∧ Same M.length M M' ∧ M.length < M'.length ∧ Acc intR 2 M.length M' r ((addL a b).take k) ∧ (∃ a n c, r = .slice (some a) n c) ∧ look T 9 = some (iv k) ∧ look T 8 = some (iv L) ∧ look T 7 = some r ∧ look T 0 = some (.slice A n c) ∧ look T 1 = some (.slice B m d) ∧ look T 2 = some (iv 1)) L
    ⟨0, _, by omega, .appS _ _, by simp, ⟨_, 0, 0, rfl, rfl, .inr ⟨M.length, true, rfl, Nat.le_refl _, by simp [cellsL]⟩⟩, ⟨_, _, _, rfl⟩, by simp, by simp, by simp, by simp, by simp, by simp⟩ ?_
  rintro q T M1 ⟨k, r, hq, i1, i2, i3, ⟨ra, rn, rc, rfl⟩, t9, t8, t7, t0, t1, t2⟩
  have k1 := slt i1
  by_cases hlt : k < L
  · simp (disch := omega) [t9, t8, t7, t0, t1, t2, hlt, wrap_in]
    refine awCall_det' (l03At_s k (ha.keeps k1)) (by omega) ?_
    try simp (disch := omega) [t9, t8, t7, t0, t1, t2, hlt, wrap_in]
    refine awCall_det' (l03At_s k (hb.keeps k1)) (by omega) ?_
    try simp (disch := omega) [t9, t8, t7, t0, t1, t2, hlt, wrap_in]
    refine awCall_det' (l01Mul_s _ _) (by omega) ?_
    try simp
    refine awCall_det' (l01Add_s _ _) (by omega) ?_
    have hy : smp (smp (atL a k) + smp (smp (smp (atL b k) * smp 1))) = el (addL a b) k := by
      rw [addL_el (by omega), smp_mul2, Int.mul_one, smp_add2, smp_addr]
    rw [hy]
    simp [fill1I]
    obtain ⟨v', M', a1, a2, a3⟩ := append_det (P := Tryz.prog) (t := 24) (tx := 24) (e := 2) (by_ := 8) (b := M.length) (S := ⟨0, [], M1 ++ [Slot.live ⟨[iv (el (addL a b) k)], true, true, 2, 1⟩]⟩) (x := .slice (some ⟨M1.length, 0, none⟩) 1 1) (a := el (addL a b) k) (i3.keeps (keeps_app _)) (Nat.le_refl _) (by simp; omega) (by simp) (by kernel_rfl) (by simp [srcOf]; rfl) (by simp; omega) (by simp; unfold maxLen; omega)
    refine appendK_M (S := ⟨0, [], M1 ++ [Slot.live ⟨[iv (el (addL a b) k)], true, true, 2, 1⟩]⟩) (by rfl) (append_ctr (append_nn (a3 (fun v M => v = v' ∧ M = M') ⟨rfl, rfl⟩)) ?_)
    rintro v M2 ⟨⟨rfl, rfl⟩, hnn⟩
    have hs := Same.trans' (Same.trans' i1 (Same.appB _ _)) a2
    have hml : M.length < M2.length := by have := a2.1; simp at this; omega
    try simp (disch := omega) [t9, t8, t7, t0, t1, t2, wrap_in]
    refine lpI (q - 1) (by omega) ⟨k + 1, _, by omega, hs, hml, ?_, hnn, by simp, by simp [t8], by simp, by simp [t0], by simp [t1], by simp [t2]⟩
    rw [take_el (by omega)]
    exact a1
  · obtain rfl : k = L := by omega
    rw [List.take_of_length_le (by omega)] at i3
    simp (disch := omega) [t9, t8, t7, t0, t1, t2]
    have := i3.newRow ⟨_, _, _, rfl⟩
    exact ⟨this, k1⟩
theorem gates_i {M : Mem} {lo hi : Nat} {us : List Value} {x : Inst} {A : Option Addr} {n c N : Nat} {l : List Gate} (h : instP.rd lo hi M x us) (hb : instB x = true) (hg : Sl gateR M A n l) (hok : okG l = true) (hN : N ≤ 4000) (hM : hi ≤ M.length) :
    Ctr Tryz.prog M.length 56 [.agg us.toArray, .slice A n c, iv N] M fun r M' => VoO M.length M' r (gatesL x l N 4) ∧ Keeps M M' := by
  have hl := instP.len h
  have ht : us.take 8 = us := List.take_of_length_le (by omega)
  have hgl := hg.1
  have h60 := okG_len hok
  first | (refine ctr_fn Tryz.func56 rfl Tryz.ntmps56 Tryz.results56 rfl rfl (by simp) ?_) | (refine ctr_fnC Tryz.func56 rfl Tryz.ntmps56 Tryz.results56 rfl (by simp) ?_)
  simp [hl, ht]
  refine awCall_det' (zeros_i N hN) (by simp) ?_
  simp
  refine awLoop_T (fun q T M1 => ∃ (v : Nat) (r : Value), v + q = 4 ∧ Keeps M M1 ∧ M.length + 1 ≤ M1.length ∧ cellsAt M1 M.length 0 8 = some us ∧ VoO M.length M1 r (gatesL x l N v) ∧ look T 8 = some (iv v) ∧ look T 7 = some r ∧ look T 3 = some (.pointer (some ⟨M.length, 0, none⟩)) ∧ look T 1 = some (.slice A n c) ∧ look T 2 = some (iv N)) 4
    ⟨0, _, by omega, keeps_app _, by simp, by simp [hl, ht], ⟨_, N, N, rfl, by simp [gatesL], .inr ⟨M.length + 1, true, rfl, by omega, by simp [gatesL]⟩⟩, by simp, by simp, by simp, by simp, by simp⟩ ?_
  rintro q T M1 ⟨v, r, hq, k1, l1, bx, hA, t8, t7, t3, t1, t2⟩
  by_cases hlt : v < 4
  · have hlt' : (v : Int) < 4 := by omega
    simp (disch := omega) [t8, t7, t3, t1, t2, hlt', wrap_in]
    refine awCall_ctr ((voiceGates_a v (hg.keeps k1) (by omega)).weaken (b' := M.length) (by omega)) ?_
    rintro _ M2 ⟨A2, n2, c2, rfl, hn2, hS2, -, -, k2⟩
    have hl2 := hS2.1
    have kk := k1.trans k2
    have lk2 := k2.len
    have bx2 := cellsAt_keeps k2 bx
    by_cases h0 : n2 = 0
    · subst h0
      have e0 : voiceL l v = [] := List.eq_nil_of_length_eq_zero hl2
      try simp (disch := omega) [t8, t7, t3, t1, t2, wrap_in]
      refine lpI (q - 1) (by omega) ⟨v + 1, r, by omega, kk, by omega, bx2, by rw [gatesL, if_pos e0]; exact hA.keeps k2, by simp, by simp [t7], by simp [t3], by simp [t1], by simp [t2]⟩
    · have e0 : ¬ voiceL l v = [] := fun e => by rw [e] at hl2; simp at hl2; omega
      have hpos : 0 < n2 := by omega
      simp (disch := omega) [t8, t7, t3, t1, t2, hpos, bx2, wrap_in]
      refine awCall_det' (voice_x (N := N) (instP.keeps h kk) hb hS2 (okG_filter _ hok) hN (by have := kk.len; omega)) (by omega) ?_
      try simp
      have hAs := (hA.keeps k2).slv (by rw [gatesL_len]; omega)
      refine awCall_det' (addTimes_x (hAs.app _) (rowI_slv (by rw [voL_len]; omega)) (by rw [gatesL_len]; omega) (by rw [voL_len]; omega)) (by simp <;> omega) ?_
      try simp (disch := omega) [t8, t7, t3, t1, t2, wrap_in]
      have k3 : Keeps M2 (M2 ++ [Slot.live (rowI (voL x (voiceL l v) N)), Slot.live (rowI (addL (gatesL x l N v) (voL x (voiceL l v) N)))]) := keeps_app _
      refine lpI (q - 1) (by omega) ⟨v + 1, .slice (some ⟨M2.length + 1, 0, none⟩) (addL (gatesL x l N v) (voL x (voiceL l v) N)).length (addL (gatesL x l N v) (voL x (voiceL l v) N)).length, by omega, kk.trans k3, by simp; omega, cellsAt_keeps k3 bx2, ?_, by simp, by simp, by simp [t3], by simp [t1], by simp [t2]⟩
      rw [gatesL, if_neg e0]
      exact ⟨_, _, _, rfl, rfl, .inr ⟨M2.length + 1, false, rfl, by omega, by simp [rowI]⟩⟩
  · obtain rfl : v = 4 := by omega
    simp (disch := omega) [t8, t7, t3, t1, t2]
    exact ⟨hA, k1⟩
theorem l22Gates_s {M : Mem} {lo hi id0 off0 : Nat} {us : List Value} {x : Inst} {A : Option Addr} {n c N : Nat} {l : List Gate} (h : instP.rd lo hi M x us) (hc0 : Cl M id0 off0 us) (hb : instB x = true) (hg : Sl gateR M A n l) (hok : okG l = true) (hN : N ≤ 4000) (hM : hi ≤ M.length ∧ id0 < M.length) :
    Ctr Tryz.prog M.length 55 [.pointer (some ⟨id0, off0, none⟩), .slice A n c, iv N] M fun r M' => VoO M.length M' r (gatesL x l N 4) ∧ Keeps M M' := by
  have hgl := hg.1
  have h60 := okG_len hok
  first | (refine ctr_fn Tryz.func55 rfl Tryz.ntmps55 Tryz.results55 rfl rfl (by simp) ?_) | (refine ctr_fnC Tryz.func55 rfl Tryz.ntmps55 Tryz.results55 rfl (by simp) ?_)
  simp
  refine awCall_det' (l03Zeros_x N hN) (by omega) ?_
  try simp
  refine awLoop_T (fun q T M1 => ∃ (v : Nat) (r : Value), v + q = 4 ∧ Keeps M M1 ∧ VoO M.length M1 r (gatesL x l N v) ∧ look T 8 = some (iv v) ∧ look T 7 = some r ∧ look T 0 = some (.pointer (some ⟨id0, off0, none⟩)) ∧ look T 1 = some (.slice A n c) ∧ look T 2 = some (iv N)) 4
    ⟨0, _, by omega, keeps_app _, ⟨_, N, N, rfl, by simp [gatesL], .inr ⟨M.length, false, rfl, by omega, by simp [gatesL, rowI]⟩⟩, by simp, by simp, by simp, by simp, by simp⟩ ?_
  rintro q T M1 ⟨v, r, hq, k1, hA, t8, t7, t0, t1, t2⟩
  have l1 := k1.len
  by_cases hlt : v < 4
  · have hlt' : (v : Int) < 4 := by omega
    simp (disch := omega) [t8, t7, t0, t1, t2, hlt', wrap_in]
    refine awCall_ctr ((l21Voice_a v (hg.keeps k1) (by omega)).weaken (b' := M.length) (by omega)) ?_
    rintro _ M2 ⟨A2, n2, c2, rfl, hn2, hS2, -, -, k2⟩
    have hl2 := hS2.1
    have kk := k1.trans k2
    have lk2 := k2.len
    by_cases h0 : n2 = 0
    · subst h0
      have e0 : voiceL l v = [] := List.eq_nil_of_length_eq_zero hl2
      try simp (disch := omega) [t8, t7, t0, t1, t2, wrap_in]
      refine lpI (q - 1) (by omega) ⟨v + 1, r, by omega, kk, by rw [gatesL, if_pos e0]; exact hA.keeps k2, by simp, by simp [t7], by simp [t0], by simp [t1], by simp [t2]⟩
    · have e0 : ¬ voiceL l v = [] := fun e => by rw [e] at hl2; simp at hl2; omega
      have hpos : 0 < n2 := by omega
      simp (disch := omega) [t8, t7, t0, t1, t2, hpos, wrap_in]
      refine awCall_ctr ((l22Voice_s (N := N) (instP.keeps h kk) (Cl.keeps hc0 kk) hb hS2 (okG_filter _ hok) hN ⟨by omega, by omega⟩).weaken (by omega)) ?_
      rintro w M3 ⟨hw, k3⟩
      have lk3 := k3.len
      try simp
      have hAs := (hA.keeps (k2.trans k3)).slv (by rw [gatesL_len]; omega)
      have hws := hw.slv (by rw [voL_len]; omega)
      refine awCall_det' (l03Add_x hAs hws (by rw [gatesL_len]; omega) (by rw [voL_len]; omega)) (by omega) ?_
      try simp (disch := omega) [t8, t7, t0, t1, t2, wrap_in]
      refine lpI (q - 1) (by omega) ⟨v + 1, .slice (some ⟨M3.length, 0, none⟩) (addL (gatesL x l N v) (voL x (voiceL l v) N)).length (addL (gatesL x l N v) (voL x (voiceL l v) N)).length, by omega, (kk.trans k3).app _, ?_, by simp, by simp, by simp [t0], by simp [t1], by simp [t2]⟩
      rw [gatesL, if_neg e0]
      exact ⟨_, _, _, rfl, rfl, .inr ⟨M3.length, false, rfl, by omega, by simp [rowI]⟩⟩
  · obtain rfl : v = 4 := by omega
    simp (disch := omega) [t8, t7, t0, t1, t2]
    exact ⟨hA, k1⟩
def rgV (x : Inst) (l : List Gate) (N : Int) : List Int × Int := if codeV x l N false = 0 then (gatesL x l N.toNat 4, 0) else ([], codeV x l N false)
theorem rgV_len {x : Inst} {l : List Gate} {N : Int} : (rgV x l N).1.length ≤ 4000 := by
  unfold rgV
  split
  · rename_i hc
    have h3 := inB_iff.1 (codeV_ok hc).2.2.1
    show (gatesL x l N.toNat 4).length ≤ 4000
    rw [gatesL_len]; omega
  · exact Nat.zero_le _
theorem RenderGates_i {M : Mem} {b lo hi : Nat} {us : List Value} {x : Inst} {A : Option Addr} {n c : Nat} {l : List Gate} (N : Int) (h : instP.rd lo hi M x us) (hM : hi ≤ M.length) (hg : Sl gateR M A n l) (hn : n ≤ 1099511627776) (hb : b ≤ M.length) :
    Ctr Tryz.prog b 26 [.agg us.toArray, .slice A n c, iv N] M fun r M' => VoS (rgV x l N) M r M' := by
  have hl := instP.len h
  have ht : us.take 8 = us := List.take_of_length_le (by omega)
  first | (refine ctr_fn Tryz.func26 rfl Tryz.ntmps26 Tryz.results26 rfl rfl (by simp) ?_) | (refine ctr_fnC Tryz.func26 rfl Tryz.ntmps26 Tryz.results26 rfl (by simp) ?_)
  simp [hl, ht]
  refine awCall_det' (gatesCode_i N false (instP.app h _) (hg.keeps (keeps_app _)) hn) (by simp <;> omega) ?_
  by_cases hc : codeV x l N false = 0
  · obtain ⟨e1, e2, e3, e4, e5⟩ := codeV_ok hc
    have k3 := inB_iff.1 e3
    obtain ⟨K, rfl⟩ := Int.eq_ofNat_of_zero_le k3.1
    simp [hc, hl, ht]
    refine awCall_ctr ((gates_i (instP.app h _) e1 (hg.keeps (keeps_app _)) e2 (by omega) (by simp; omega)).weaken (by simp <;> omega)) ?_
    rintro v M' ⟨hA, hk⟩
    have hv : rgV x l K = (gatesL x l K 4, 0) := by unfold rgV; rw [if_pos hc]; rfl
    rw [hv]
    try simp
    have := hk.len
    exact ⟨_, rfl, Acc.low hA (by simp), ⟨by simp at this; omega, fun i s _ hs => hk.get ((keeps_app _).get hs)⟩⟩
  · simp [hc]
    have hv : rgV x l N = ([], codeV x l N false) := by unfold rgV; rw [if_neg hc]
    rw [hv]
    exact ⟨_, rfl, .nil, Same.appS _ _⟩
theorem RenderGates_il {M : Mem} {b lo hi lo' hi' : Nat} {us : List Value} {x : Inst} {v : Value} {l : List Gate} (N : Int) (h : instP.rd lo hi M x us) (hg : RdL gateR lo' hi' M v l) (hl : l.length ≤ 1048576) (hb : b ≤ M.length ∧ hi ≤ M.length) :
    Ctr Tryz.prog b 26 [.agg us.toArray, v, iv N] M fun r M' => VoS (rgV x l N) M r M' := by
  obtain ⟨A, n, c, rfl, hn, hS, -⟩ := hg
  exact RenderGates_i N h hb.2 hS (by have := hS.1; omega) hb.1
theorem RenderGates_s {M : Mem} {b lo hi : Nat} {us : List Value} {x : Inst} {A : Option Addr} {n c : Nat} {l : List Gate} (N : Int) (h : instP.rd lo hi M x us) (hM : hi ≤ M.length) (hg : Sl gateR M A n l) (hn : n ≤ 1099511627776) (hb : b ≤ M.length) :
    Ctr Tryz.prog b 25 [.agg us.toArray, .slice A n c, iv N] M fun r M' => VoS (rgV x l N) M r M' := by
  have hl := instP.len h
  have ht : us.take 8 = us := List.take_of_length_le (by omega)
  have hc : Cl (M ++ [Slot.live ⟨us, true, true, 44, 8⟩]) M.length 0 us := fun j y hy => by simp [cellAt, hy]
  first | (refine ctr_fn Tryz.func25 rfl Tryz.ntmps25 Tryz.results25 rfl rfl (by simp) ?_) | (refine ctr_fnC Tryz.func25 rfl Tryz.ntmps25 Tryz.results25 rfl (by simp) ?_)
  simp [hl, ht]
  refine awCall_det' (l22Ask_s N false (instP.app h _) hc (hg.keeps (keeps_app _)) hn) (by simp <;> omega) ?_
  by_cases hcv : codeV x l N false = 0
  · obtain ⟨e1, e2, e3, e4, e5⟩ := codeV_ok hcv
    have k3 := inB_iff.1 e3
    obtain ⟨K, rfl⟩ := Int.eq_ofNat_of_zero_le k3.1
    simp [hcv, hl, ht]
    refine awCall_ctr ((l22Gates_s (instP.app h _) hc e1 (hg.keeps (keeps_app _)) e2 (by omega) ⟨by simp; omega, by simp⟩).weaken (by simp <;> omega)) ?_
    rintro v M' ⟨hA, hk⟩
    have hv : rgV x l K = (gatesL x l K 4, 0) := by unfold rgV; rw [if_pos hcv]; rfl
    rw [hv]
    try simp
    have := hk.len
    exact ⟨_, rfl, Acc.low hA (by simp), ⟨by simp at this; omega, fun i s _ hs => hk.get ((keeps_app _).get hs)⟩⟩
  · simp [hcv]
    have hv : rgV x l N = ([], codeV x l N false) := by unfold rgV; rw [if_neg hcv]
    rw [hv]
    exact ⟨_, rfl, .nil, Same.appS _ _⟩
theorem RenderGates_sl {M : Mem} {b lo hi lo' hi' : Nat} {us : List Value} {x : Inst} {v : Value} {l : List Gate} (N : Int) (h : instP.rd lo hi M x us) (hg : RdL gateR lo' hi' M v l) (hl : l.length ≤ 1048576) (hb : b ≤ M.length ∧ hi ≤ M.length) :
    Ctr Tryz.prog b 25 [.agg us.toArray, v, iv N] M fun r M' => VoS (rgV x l N) M r M' := by
  obtain ⟨A, n, c, rfl, hn, hS, -⟩ := hg
  exact RenderGates_s N h hb.2 hS (by have := hS.1; omega) hb.1
end Go.Proofs.YtimijeeihicohaaGreat
