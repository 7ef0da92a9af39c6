/- Tracks are rendered. No conditions. -/
import Derived.Test.YtffbocbjmhkikaaJ1
namespace Go.Proofs.Ytffbocbjmhkikaa
open Go.RowKit
set_option linter.unusedVariables false
set_option linter.unusedSimpArgs false
set_option maxRecDepth 100000
attribute [local simp] List.getElem?_cons_zero
attribute [local irreducible] awCond awCall awLoop awDraw ow retQ retC resQ Keeps
def cntC (g : Clip) (n : Nat) : Nat := (min g.len (n - g.at_)).toNat
def valC (ss : List (List Int)) (g : Clip) (k : Nat) (x : Int) : Int := smp (x + g.gain * atL (el ss g.src.toNat) (g.fr + k))
def rendC (ss : List (List Int)) (g : Clip) : Nat → List Int → List Int
  | 0, l => l
  | k + 1, l => (rendC ss g k l).set (g.at_ + k).toNat (valC ss g k (el (rendC ss g k l) (g.at_ + k).toNat))
def rendT (ss : List (List Int)) (cl : List Clip) (n : Nat) : Nat → List Int
  | 0 => List.replicate n 0
  | i + 1 => rendC ss (el cl i) (cntC (el cl i) n) (rendT ss cl n i)
theorem rendC_len {ss : List (List Int)} {g : Clip} {l : List Int} : ∀ k, (rendC ss g k l).length = l.length
  | 0 => rfl
  | k + 1 => by rw [rendC, List.length_set, rendC_len k]
theorem rendT_len {ss : List (List Int)} {cl : List Clip} {n : Nat} : ∀ i, (rendT ss cl n i).length = n
  | 0 => by simp [rendT]
  | i + 1 => by rw [rendT, rendC_len, rendT_len i]
def inS (l : List Int) : Prop := ∀ x, x ∈ l → -2147483648 ≤ x ∧ x ≤ 2147483647
theorem rendC_in {ss : List (List Int)} {g : Clip} {l : List Int} (h : inS l) : ∀ k, inS (rendC ss g k l)
  | 0 => h
  | k + 1 => fun x hx => by
    rcases List.mem_or_eq_of_mem_set hx with h' | rfl
    · exact rendC_in h k x h'
    · exact smp_bd _
theorem rendT_in {ss : List (List Int)} {cl : List Clip} {n : Nat} : ∀ i, inS (rendT ss cl n i)
  | 0 => fun x hx => by rw [rendT, List.mem_replicate] at hx; omega
  | i + 1 => rendC_in (rendT_in i) _
def hasC (cl : List Clip) (n : Nat) : Bool := cl.all fun g => decide (g.src < n)
theorem slt {M M' : Mem} (h : Same M.length M M') : Keeps M M' := h.keeps (Keeps.refl _) (Nat.le_refl _)
theorem put_boxJ {b : Nat} {M : Mem} {vs cs : List Value} {t : Bool} {e : TypeId} {z : Nat} (hb : b ≤ M.length) (hl : vs.length = cs.length) (h1 : vs.all oneV = true) :
    putCells b (M ++ [.live ⟨cs, true, t, e, z⟩]) M.length 0 vs = some (M ++ [.live ⟨vs, true, t, e, z⟩]) := by
  rw [put_whole getElem?_snoc_eq hb hl h1]
  simp
theorem clipB_bd {g : Clip} (h : clipB g = true) : (0 ≤ g.src ∧ g.src ≤ 5) ∧ (1 ≤ g.len ∧ g.len ≤ 4000) ∧ (0 ≤ g.fr ∧ g.fr ≤ 4000 - g.len) ∧ (0 ≤ g.at_ ∧ g.at_ ≤ 4000 - g.len) ∧ (-2147483648 ≤ g.gain ∧ g.gain ≤ 2147483647) := by
  unfold clipB at h
  simp only [Bool.and_eq_true] at h
  obtain ⟨⟨⟨⟨h1, h2⟩, h3⟩, h4⟩, h5⟩ := h
  exact ⟨inB_iff.1 h1, inB_iff.1 h2, inB_iff.1 h3, inB_iff.1 h4, inB_iff.1 h5⟩
theorem renderTrack_i {M : Mem} {b lo hi : Nat} {u : Value} {ss : List (List Int)} {A : Option Addr} {n c N : Nat} {cl : List Clip} (hs : SlV tabP lo hi M u ss) (ht : Sl clipR M A n cl) (hok : okC cl = true) (hso : srcsB ss = true) (hh : hasC cl ss.length = true) (hN : N ≤ 4000) (hb : b ≤ M.length) :
    Ctr Try.prog b 75 [u, .agg #[.slice A n c], iv N] M fun v M' => Acc intR 2 M.length M' v (rendT ss cl N cl.length) ∧ Same M.length M M' := by
  have hl := ht.1
  first | (refine ctr_fn Try.func75 rfl Try.ntmps75 Try.results75 rfl rfl (by simp) ?_) | (refine ctr_fnC Try.func75 rfl Try.ntmps75 Try.results75 rfl (by simp) ?_)
  simp
  refine awCall_det' (zeros_i N hN) (by simp <;> omega) ?_
  simp
  refine awLoop_T (fun m T M' => ∃ (k : Nat) (v : Value), k + m = n ∧ Acc intR 2 M.length M' v (rendT ss cl N k) ∧ Same M.length M M' ∧ look T 16 = some (iv k) ∧ look T 15 = some (iv n) ∧ look T 14 = some (.slice A n c) ∧ look T 7 = some v ∧ look T 0 = some u ∧ look T 2 = some (iv N)) n ?_ ?_
  · refine ⟨0, _, by omega, ⟨_, N, N, rfl, by simp [rendT], .inr ⟨M.length + 1, true, rfl, by omega, ?_⟩⟩, ?_, by simp, by simp, by simp, by simp, by simp, by simp⟩
    · simp [rendT]
    · exact ⟨by simp, fun i s _ hs => (keeps_app _).get hs⟩
  rintro m T M1 ⟨k, v, hm, ha, hS, t16, t15, t14, t7, t0, t2⟩
  by_cases hlt : k < n
  · have hk := slt hS
    have hS' := hs.keeps hk
    obtain ⟨id, off, rfl, he, hc⟩ := (ht.keeps hk).at_ hlt
    obtain ⟨c0, c1, c2, c3, c4⟩ := clip_cells hc
    simp (disch := omega) [t16, t15, t14, hlt, he, wrap_in, clip_load hc]
    have hkl : k < cl.length := by omega
    have hk12 := okC_len hok
    have hcb := okC_el hok hkl
    have hsl : (el cl k).src < ss.length := of_decide_eq_true (List.all_eq_true.1 hh _ (el_mem hkl))
    have hrT := rendT_in (ss := ss) (cl := cl) (n := N) k
    have hrl := rendT_len (ss := ss) (cl := cl) (n := N) k
    have hnx : rendT ss cl N (k + 1) = rendC ss (el cl k) (cntC (el cl k) N) (rendT ss cl N k) := rfl
    generalize el cl k = g at *
    generalize rendT ss cl N k = l0 at *
    obtain ⟨w0, w1, w2, w3, w4⟩ := clipB_bd hcb
    rw [put_boxJ (vs := [iv g.src, iv g.fr, iv g.len, iv g.at_, iv g.gain]) (cs := [.int .i64 0, .int .i64 0, .int .i64 0, .int .i64 0, .int .i64 0]) (by have := hS.1; omega) rfl rfl, ow_some]
    obtain ⟨M2, hM2⟩ : ∃ M2 : Mem, M2 = M1 ++ [Slot.live ⟨[iv g.src, iv g.fr, iv g.len, iv g.at_, iv g.gain], true, true, 71, 5⟩] := ⟨_, rfl⟩
    have hb2 : M2[M1.length]? = some (Slot.live ⟨[iv g.src, iv g.fr, iv g.len, iv g.at_, iv g.gain], true, true, 71, 5⟩) := by rw [hM2]; simp
    have ha2 : Acc intR 2 M.length M2 v l0 := by rw [hM2]; exact ha.keeps (keeps_app _)
    have hS2 : Same M.length M M2 := by
      rw [hM2]
      exact ⟨by have := hS.1; simp; omega, fun i s h1 h2 => (keeps_app _).get (hS.2 i s h1 h2)⟩
    rw [← hM2]
    have hqq : M1.length = M1.length := rfl
    generalize M1.length = q at *
    clear hM2 ha hS hk hS' he hc c0 c1 c2 c3 c4
    refine awLoop_T (fun m T M' => ∃ (j : Nat) (v : Value), j + m = cntC g N ∧ Acc intR 2 M.length M' v (rendC ss g j l0) ∧ Same M.length M M' ∧ M'[q]? = some (Slot.live ⟨[iv g.src, iv g.fr, iv g.len, iv g.at_, iv g.gain], true, true, 71, 5⟩) ∧ look T 10 = some (iv j) ∧ look T 9 = some (.pointer (some ⟨q, 0, none⟩)) ∧ look T 16 = some (iv k) ∧ look T 15 = some (iv n) ∧ look T 14 = some (.slice (some ⟨id, off, none⟩) n c) ∧ look T 7 = some v ∧ look T 0 = some u ∧ look T 2 = some (iv N)) (cntC g N) ⟨0, v, by omega, ha2, hS2, hb2, by simp, by simp, by simp [t16], by simp [t15], by simp [t14], by simp [t7], by simp [t0], by simp [t2]⟩ ?_
    clear ha2 hS2 hb2 t16 t15 t14 t7 t0 t2 T
    rintro m' T M3 ⟨j, v, hm', ha, hS, hbx, t10, t9, t16, t15, t14, t7, t0, t2⟩
    have b1 : cellAt M3 q 1 = some (iv g.fr) := by simp [cellAt, hbx]
    have b0 : cellAt M3 q 0 = some (iv g.src) := by simp [cellAt, hbx]
    have b2 : cellAt M3 q 2 = some (iv g.len) := by simp [cellAt, hbx]
    have b3 : cellAt M3 q 3 = some (iv g.at_) := by simp [cellAt, hbx]
    have b4 : cellAt M3 q 4 = some (iv g.gain) := by simp [cellAt, hbx]
    by_cases hj : j < cntC g N
    · have hj1 : (j : Int) < g.len ∧ g.at_ + j < N := by unfold cntC at hj; omega
      have hk := slt hS
      have hM3 : M.length ≤ M3.length := hS.1
      have ha0 := ha
      obtain ⟨A', n', c', rfl, hl', -⟩ := ha0
      have hn' : n' = N := by rw [← hl', rendC_len, hrl]
      subst hn'
      have hpos : 0 < (rendC ss g j l0).length := by rw [hl']; omega
      obtain ⟨idr, rfl, hid, hez, hld, hst⟩ := ha.put hb hpos
      have hai : (g.at_ + j).toNat < (rendC ss g j l0).length := by rw [hl']; omega
      have ld := hld _ 0 _ hai rfl
      simp only [Nat.mul_one, Nat.add_zero] at ld
      have hrb := rendC_in (ss := ss) (g := g) hrT j _ (el_mem hai)
      obtain ⟨M4, p1, p2, p3, p4⟩ := hst _ (valC ss g j (el (rendC ss g j l0) (g.at_ + j).toNat)) hai (by rfl)
      simp only [Nat.mul_one] at p1
      replace p1 : putCells b M3 idr (g.at_ + j).toNat [iv (valC ss g j (el (rendC ss g j l0) (g.at_ + j).toNat))] = some M4 := p1
      obtain ⟨As, ns, cs, rfl, hs1, hs2, hs3⟩ := hs.keeps hk
      have hsn := hs3.1
      have hsi : g.src.toNat < ns := by omega
      obtain ⟨ids, offs, us, rfl, hes, hrd, hcs⟩ := hs3.at_ hsi
      obtain ⟨u', rfl, hu'⟩ := hrd
      have cS := (cl_cons.1 hcs).1
      simp only [Nat.mul_one] at cS
      have hsg : sigB (el ss g.src.toNat) = true := by
        unfold srcsB at hso
        rw [Bool.and_eq_true] at hso
        exact List.all_eq_true.1 hso.2 _ (el_mem (by omega))
      have hat := atL_bd hsg (g.fr + j)
      have hpr := prod_bd w4.1 w4.2 hat.1 hat.2
      simp (disch := omega) [t10, t9, t7, t0, t2, b2, b3, hj1, wrap_in]
      refine awDraw_E 27 [[],[],[1],[],[2,1,3],[],[],[6],[],[7,6,8],[5,9,7,6,8],[10,5,9,7,6,8],[],[12],[],[],[15],[14,16,15],[17,14,16,15],[],[19],[],[20,19,21],[18,17,14,16,15,22,20,19,21],[13,12,23,18,17,14,16,15,22,20,19,21],[11,10,5,9,7,6,8,24,13,12,23,18,17,14,16,15,22,20,19,21],[25,11,10,5,9,7,6,8,24,13,12,23,18,17,14,16,15,22,20,19,21],[0,4,2,1,3,5,6,7,8,9,10,11,12,13,14,15,16,17,18,19,20,21,22,23,24,25,26],[27,0,4,2,1,3,5,6,7,8,9,10,11,12,13,14,15,16,17,18,19,20,21,22,23,24,25,26]] (by kernel_rfl) (by kernel_rfl) ?_
      simp (disch := omega) [t10, t9, t7, t0, t2, b0, b1, b2, b3, b4, hj1, wrap_in, ld, hez, hes, cS]
      refine ⟨by omega, by omega, ?_⟩
      refine awCall_det' (at_i (g.fr + j) (by omega) hu') (by omega) ?_
      simp (disch := omega) [wrap_in]
      refine awCall_det' (Wrap_s _) (by omega) ?_
      refine ⟨rfl, ⟨by omega, by omega⟩, rfl, ?_⟩
      have hqr : q ≠ idr := by
        intro e
        subst e
        simp [rowEsz, hbx] at hez
      replace p1 : putCells b M3 idr (g.at_ + (j : Int)).toNat (iv (smp (el (rendC ss g j l0) (g.at_ + (j : Int)).toNat + g.gain * atL (el ss g.src.toNat) (g.fr + (j : Int))))).cells.toList = some M4 := p1
      rw [p1, ow_some]
      simp (disch := omega) [t10, wrap_in]
      refine lpI (m' - 1) (by omega) ⟨j + 1, _, by omega, p2, ⟨by omega, fun i s h1 h2 => p4 i s (by omega) (hS.2 i s h1 h2)⟩, p4 _ _ hqr hbx, by simp, by simp [t9], by simp [t16], by simp [t15], by simp [t14], by simp [t7], by simp [t0], by simp [t2]⟩
    · have hjc : j = cntC g N := by omega
      have ha' : Acc intR 2 M.length M3 v (rendT ss cl N (k + 1)) := by rw [hnx, ← hjc]; exact ha
      by_cases hj1 : (j : Int) < g.len
      · have hj2 : ¬ g.at_ + j < N := by unfold cntC at hjc; omega
        simp (disch := omega) [t10, t9, t2, b2, b3, hj1, hj2, t16, wrap_in]
        refine lpI (m - 1) (by omega) ⟨k + 1, v, by omega, ha', hS, by simp, by simp [t15], by simp [t14], by simp [t7], by simp [t0], by simp [t2]⟩
      · simp (disch := omega) [t10, t9, t2, b2, b3, hj1, t16, wrap_in]
        refine lpI (m - 1) (by omega) ⟨k + 1, v, by omega, ha', hS, by simp, by simp [t15], by simp [t14], by simp [t7], by simp [t0], by simp [t2]⟩
  · obtain rfl : k = n := by omega
    rw [hl]
    simp [t16, t15, t14, t7, ha, hS]
theorem l23Render_s {M : Mem} {b lo hi B off0 : Nat} {u : Value} {ss : List (List Int)} {A : Option Addr} {n c N : Nat} {cl : List Clip} (hs : SlV tabP lo hi M u ss) (hp : cellAt M B off0 = some (.slice A n c)) (ht : Sl clipR M A n cl) (hok : okC cl = true) (hso : srcsB ss = true) (hh : hasC cl ss.length = true) (hN : N ≤ 4000) (hb : b ≤ M.length) :
    Ctr Try.prog b 68 [u, .pointer (some ⟨B, off0, none⟩), iv N] M fun v M' => Acc intR 2 M.length M' v (rendT ss cl N cl.length) ∧ Same M.length M M' := by
  have hl := ht.1
  first | (refine ctr_fn Try.func68 rfl Try.ntmps68 Try.results68 rfl rfl (by simp) ?_) | (refine ctr_fnC Try.func68 rfl Try.ntmps68 Try.results68 rfl (by simp) ?_)
  simp
  refine awCall_ctr (l03Zeros_s N hN (by omega)) ?_
  rintro v M1 ⟨ha, hS⟩
  try simp
  refine awLoop_T (fun m T M' => ∃ (k : Nat) (v : Value), k + m = n ∧ Acc intR 2 M.length M' v (rendT ss cl N k) ∧ Same M.length M M' ∧ look T 8 = some (iv k) ∧ look T 7 = some v ∧ look T 0 = some u ∧ look T 1 = some (.pointer (some ⟨B, off0, none⟩)) ∧ look T 2 = some (iv N)) n ⟨0, v, by omega, ha, hS, by simp, by simp, by simp, by simp, by simp⟩ ?_
  clear ha hS
  rintro m T M1 ⟨k, v, hm, ha, hS, t8, t7, t0, t1, t2⟩
  have hk := slt hS
  have hp1 := cellAt_keeps hk hp
  have hk12 := okC_len hok
  by_cases hlt : k < n
  · have hkl : k < cl.length := by omega
    have hcb := okC_el hok hkl
    have hsl : (el cl k).src < ss.length := of_decide_eq_true (List.all_eq_true.1 hh _ (el_mem hkl))
    have hrT := rendT_in (ss := ss) (cl := cl) (n := N) k
    have hrl := rendT_len (ss := ss) (cl := cl) (n := N) k
    have hnx : rendT ss cl N (k + 1) = rendC ss (el cl k) (cntC (el cl k) N) (rendT ss cl N k) := rfl
    obtain ⟨id, off, rfl, he, hc⟩ := ht.at_ hlt
    generalize el cl k = g at *
    generalize rendT ss cl N k = l0 at *
    obtain ⟨w0, w1, w2, w3, w4⟩ := clipB_bd hcb
    simp (disch := omega) [t8, t7, t0, t1, t2, hp1, hlt, rowEsz_keeps hk he, wrap_in]
    have hkr : k ≤ 12 := by omega
    refine awLoop_T (fun m T M' => ∃ (j : Nat) (v : Value), j + m = cntC g N ∧ Acc intR 2 M.length M' v (rendC ss g j l0) ∧ Same M.length M M' ∧ look T 10 = some (iv j) ∧ look T 9 = some (.pointer (some ⟨id, off + k * 5, none⟩)) ∧ look T 8 = some (iv k) ∧ look T 7 = some v ∧ look T 0 = some u ∧ look T 1 = some (.pointer (some ⟨B, off0, none⟩)) ∧ look T 2 = some (iv N)) (cntC g N) ⟨0, v, by omega, ha, hS, by simp, by simp, by simp [t8], by simp [t7], by simp [t0], by simp [t1], by simp [t2]⟩ ?_
    clear ha hS t8 t7 t0 t1 t2 T hp1 hk
    rintro m' T M3 ⟨j, v, hm', ha, hS, t10, t9, t8, t7, t0, t1, t2⟩
    have hk := slt hS
    obtain ⟨b0, b1, b2, b3, b4⟩ := clip_cells (hc.keeps hk)
    by_cases hj : j < cntC g N
    · have hj1 : (j : Int) < g.len ∧ g.at_ + j < N := by unfold cntC at hj; omega
      have hM3 : M.length ≤ M3.length := hS.1
      have ha0 := ha
      obtain ⟨A', n', c', rfl, hl', -⟩ := ha0
      have hn' : n' = N := by rw [← hl', rendC_len, hrl]
      subst hn'
      have hpos : 0 < (rendC ss g j l0).length := by rw [hl']; omega
      obtain ⟨idr, rfl, hid, hez, hld, hst⟩ := ha.put hb hpos
      have hai : (g.at_ + j).toNat < (rendC ss g j l0).length := by rw [hl']; omega
      have ld := hld _ 0 _ hai rfl
      simp only [Nat.mul_one, Nat.add_zero] at ld
      have hrb := rendC_in (ss := ss) (g := g) hrT j _ (el_mem hai)
      obtain ⟨M4, p1, p2, p3, p4⟩ := hst _ (valC ss g j (el (rendC ss g j l0) (g.at_ + j).toNat)) hai (by rfl)
      simp only [Nat.mul_one] at p1
      obtain ⟨As, ns, cs, rfl, hs1, hs2, hs3⟩ := hs.keeps hk
      have hsn := hs3.1
      have hsi : g.src.toNat < ns := by omega
      obtain ⟨ids, offs, us, rfl, hes, hrd, hcs⟩ := hs3.at_ hsi
      obtain ⟨u', rfl, hu'⟩ := hrd
      have cS := (cl_cons.1 hcs).1
      simp only [Nat.mul_one] at cS
      have hsg : sigB (el ss g.src.toNat) = true := by
        unfold srcsB at hso
        rw [Bool.and_eq_true] at hso
        exact List.all_eq_true.1 hso.2 _ (el_mem (by omega))
      have hat := atL_bd hsg (g.fr + j)
      have hpr := prod_bd w4.1 w4.2 hat.1 hat.2
      have hval : smp (smp (el (rendC ss g j l0) (g.at_ + (j : Int)).toNat) + smp (smp (smp g.gain * smp (atL (el ss g.src.toNat) (g.fr + (j : Int)))))) = valC ss g j (el (rendC ss g j l0) (g.at_ + j).toNat) := by
        rw [smp_in hrb.1 hrb.2, smp_in w4.1 w4.2, smp_in hat.1 hat.2, smp_add, smp_add]
        rfl
      simp (disch := omega) [t10, t9, t7, t0, t2, b2, b3, hj1, wrap_in]
      refine awDraw_E 36 [[],[],[1],[2,1],[3,2,1],[],[4,3,2,1,5],[],[],[8],[9,8],[10,9,8],[],[11,10,9,8,12],[7,13,11,10,9,8,12],[14,7,13,11,10,9,8,12],[],[16],[17,16],[18,17,16],[],[],[21],[22,21],[23,22,21],[20,24,23,22,21],[25,20,24,23,22,21],[],[27],[28,27],[29,28,27],[],[30,29,28,27,31],[26,25,20,24,23,22,21,32,30,29,28,27,31],[19,18,17,16,33,26,25,20,24,23,22,21,32,30,29,28,27,31],[15,14,7,13,11,10,9,8,12,34,19,18,17,16,33,26,25,20,24,23,22,21,32,30,29,28,27,31],[0,6,4,3,2,1,5,7,8,9,10,11,12,13,14,15,16,17,18,19,20,21,22,23,24,25,26,27,28,29,30,31,32,33,34,35],[36,0,6,4,3,2,1,5,7,8,9,10,11,12,13,14,15,16,17,18,19,20,21,22,23,24,25,26,27,28,29,30,31,32,33,34,35]] (by kernel_rfl) (by kernel_rfl) ?_
      simp (disch := omega) [t10, t9, t7, t0, t2, b0, b1, b2, b3, b4, hj1, wrap_in, ld, hez, hes, cS]
      refine ⟨by omega, ⟨by omega, by omega⟩, ?_⟩
      refine awCall_det' (l03At_s (g.fr + j) hu') (by omega) ?_
      refine ⟨rfl, awCall_det' (l01Mul_s _ _) (by omega) ⟨rfl, awCall_det' (l01Add_s _ _) (by omega) ⟨rfl, by omega, rfl, ?_⟩⟩⟩
      rw [hval]
      replace p1 : putCells b M3 idr (g.at_ + (j : Int)).toNat (iv (valC ss g j (el (rendC ss g j l0) (g.at_ + (j : Int)).toNat))).cells.toList = some M4 := p1
      rw [p1, ow_some]
      refine lpI (m' - 1) (by omega) ⟨j + 1, _, by omega, p2, ⟨by omega, fun i s h1 h2 => p4 i s (by omega) (hS.2 i s h1 h2)⟩, by simp, by simp [t9], by simp [t8], by simp [t7], by simp [t0], by simp [t1], by simp [t2]⟩
    · have hjc : j = cntC g N := by omega
      have ha' : Acc intR 2 M.length M3 v (rendT ss cl N (k + 1)) := by rw [hnx, ← hjc]; exact ha
      by_cases hj1 : (j : Int) < g.len
      · have hj2 : ¬ g.at_ + j < N := by unfold cntC at hjc; omega
        simp (disch := omega) [t10, t9, t2, b2, b3, hj1, hj2, t8, wrap_in]
        refine lpI (m - 1) (by omega) ⟨k + 1, v, by omega, ha', hS, by simp, by simp [t7], by simp [t0], by simp [t1], by simp [t2]⟩
      · simp (disch := omega) [t10, t9, t2, b2, b3, hj1, t8, wrap_in]
        refine lpI (m - 1) (by omega) ⟨k + 1, v, by omega, ha', hS, by simp, by simp [t7], by simp [t0], by simp [t1], by simp [t2]⟩
  · obtain rfl : k = n := by omega
    rw [hl]
    simp (disch := omega) [t8, t7, t1, hp1, ha, hS]
end Go.Proofs.Ytffbocbjmhkikaa
