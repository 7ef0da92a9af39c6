/- Streams: the canonical form. No conditions. -/
import Derived.Test.YthopcmglcnlcfaaE2
import Derived.Test.YthopcmglcnlcfaaV3
namespace Go.Proofs.Ythopcmglcnlcfaa
open Go.RowKit
set_option linter.unusedVariables false
set_option linter.unusedSimpArgs false
set_option maxRecDepth 100000
attribute [local simp] List.getElem?_cons_zero
attribute [local irreducible] awCond awCall awLoop awDraw ow retQ retC resQ Keeps
def stat (e : StreamEvent) : Int := if e.j = 1 then 144 + e.o else 128 + e.o
def encE (st : Int) (e : StreamEvent) : List Int := varB e.d.toNat ++ ((if stat e = st then [] else [stat e]) ++ ([e.k] ++ (if e.j = 1 then [e.u] else [])))
def stAt (l : List StreamEvent) (i : Nat) : Int := if i = 0 then 0 else stat (el l (i - 1))
def encP (l : List StreamEvent) : Nat → List Int
  | 0 => []
  | i + 1 => encP l i ++ encE (stAt l i) (el l i)
theorem encE_len (st : Int) (e : StreamEvent) : (encE st e).length ≤ 8 := by
  have := tl_len e.d.toNat
  unfold encE
  simp only [List.length_append]
  split <;> split <;> simp <;> omega
theorem encP_len (l : List StreamEvent) : ∀ i, (encP l i).length ≤ 8 * i
  | 0 => by simp [encP]
  | i + 1 => by
    have := encP_len l i
    have := encE_len (stAt l i) (el l i)
    simp only [encP, List.length_append]
    omega
def encS (l : List StreamEvent) : ByteArray := bstr (encP l l.length)
theorem eventB_iff {e : StreamEvent} : eventB e = true ↔ (0 ≤ e.d ∧ e.d ≤ 268435455) ∧ (0 ≤ e.o ∧ e.o ≤ 15) ∧ (0 ≤ e.k ∧ e.k ≤ 127) ∧ ((e.j = 1 ∧ 1 ≤ e.u ∧ e.u ≤ 127) ∨ (e.j = 2 ∧ e.u = 0)) := by
  simp only [eventB, Bool.and_eq_true, Bool.or_eq_true, decide_eq_true_eq, inB_iff]
  constructor <;> (intro h; simp only [and_assoc] at h ⊢; exact h)
theorem okE_el {l : List StreamEvent} (h : okE l = true) {i : Nat} (hi : i < l.length) : eventB (el l i) = true := by
  unfold okE at h
  simp only [Bool.and_eq_true, List.all_eq_true] at h
  exact h.2 _ (el_mem hi)
theorem okE_len {l : List StreamEvent} (h : okE l = true) : l.length ≤ 200 := by
  unfold okE at h
  simp only [Bool.and_eq_true, decide_eq_true_eq] at h
  exact h.1
theorem statusOf_a {M : Mem} (e : StreamEvent) (h : eventB e = true) : Det Try.prog M.length 119 [e.v] M (.int .u8 (stat e)) M := by
  have hb := eventB_iff.1 h
  first | (refine det_fn Try.func119 rfl Try.ntmps119 Try.results119 rfl rfl rfl (by simp) ?_) | (refine det_fnC Try.func119 rfl Try.ntmps119 Try.results119 rfl rfl (by simp) ?_)
  simp
  by_cases hj : e.j = 1
  · simp (disch := omega) [hj, wrap_in, wrap_u8, stat, keeps_app]
  · simp (disch := omega) [hj, wrap_in, wrap_u8, stat, keeps_app]
theorem l20Status_a {M : Mem} {id off : Nat} {e : StreamEvent} (hc : Cl M id off e.row) (h : eventB e = true) : Det Try.prog M.length 138 [.pointer (some ⟨id, off, none⟩)] M (iv (stat e)) M := by
  have hb := eventB_iff.1 h
  obtain ⟨c0, c1, c2, c3, c4⟩ := streamEvent_cells hc
  first | (refine det_fn Try.func138 rfl Try.ntmps138 Try.results138 rfl rfl rfl (by simp) ?_) | (refine det_fnC Try.func138 rfl Try.ntmps138 Try.results138 rfl rfl (by simp) ?_)
  simp [c1]
  by_cases hj : e.j = 1
  · simp (disch := omega) [hj, c2, wrap_in, stat, Keeps.refl]
  · simp (disch := omega) [hj, c2, wrap_in, stat, Keeps.refl]
theorem stat_bd {e : StreamEvent} (h : (0 ≤ e.d ∧ e.d ≤ 268435455) ∧ (0 ≤ e.o ∧ e.o ≤ 15) ∧ (0 ≤ e.k ∧ e.k ≤ 127) ∧ ((e.j = 1 ∧ 1 ≤ e.u ∧ e.u ≤ 127) ∨ (e.j = 2 ∧ e.u = 0))) : 128 ≤ stat e ∧ stat e ≤ 159 := by
  unfold stat
  split <;> omega
theorem l20Encode_a {M : Mem} {A : Option Addr} {n c : Nat} {l : List StreamEvent} (h : Sl streamEventR M A n l) (hok : okE l = true) : Det Try.prog M.length 121 [.slice A n c] M (.string (encS l)) M := by
  have hl := h.1
  have hn := okE_len hok
  first | (refine det_fn Try.func121 rfl Try.ntmps121 Try.results121 rfl rfl rfl (by simp) ?_) | (refine det_fnC Try.func121 rfl Try.ntmps121 Try.results121 rfl rfl (by simp) ?_)
  simp
  refine awLoop_T (fun m T M' => ∃ (i : Nat) (u : Value), i + m = n ∧ Keeps M M' ∧ Acc byteR 5 M.length M' u (encP l i) ∧ look T 5 = some (iv i) ∧ look T 3 = some u ∧ look T 4 = some (iv (stAt l i)) ∧ look T 0 = some (.slice A n c)) n ⟨0, .slice (some ⟨M.length, 0, none⟩) 0 0, by omega, keeps_app _, ⟨some ⟨M.length, 0, none⟩, 0, 0, rfl, by simp [encP], .inr ⟨M.length, true, rfl, Nat.le_refl _, by simp [encP, cellsL_byte]⟩⟩, by simp, by simp, by simp [stAt], by simp⟩ ?_
  rintro m T M' ⟨i, u, hm, hK, hA, h5, h3, h4, h0⟩
  have hKl := hK.len
  by_cases hlt : i < n
  · obtain ⟨id, off, rfl, he, hc⟩ := h.at_ hlt
    have hev := okE_el hok (i := i) (by omega)
    have hb := eventB_iff.1 hev
    have hpl := encP_len l i
    obtain ⟨q, hq⟩ : ∃ q : Nat, (el l i).d = q := ⟨(el l i).d.toNat, by omega⟩
    obtain ⟨c0, c1, c2, c3, c4⟩ := streamEvent_cells (hc.keeps hK)
    rw [hq] at c0
    simp (disch := omega) [h5, h3, h0, hlt, wrap_in, rowEsz_keeps hK he, c0]
    refine awCall_ctr ((l20Put_a q (by omega)).weaken hKl) ?_
    rintro r M1 ⟨hA1, hK1⟩
    have hKl1 := hK1.len
    have hvl := tl_len q
    try simp
    refine Acc.extend (R := byteR) (e := 5) (by_ := 1) (ls := varB q) (hA.keeps hK1) (Nat.le_refl _) (by simp; omega) (by simp) (by kernel_rfl) (hA1.src ⟨_, Try.underlying22⟩) (byte_one _) (by omega) (by unfold maxLen; omega) ?_
    intro v2 M2 hA2 hS2
    have hK2 := hS2.keeps (hK.trans hK1) (Nat.le_refl _)
    have hKl2 := hK2.len
    obtain ⟨d0, d1, d2, d3, d4⟩ := streamEvent_cells (hc.keeps hK2)
    try simp
    refine awCall_det' (l20Status_a (hc.keeps hK2) hev) (by omega) ?_
    have hcl := stat_bd hb
    by_cases hs : stat (el l i) = stAt l i
    · simp (disch := omega) [h4, hs, d3, wrap_in, wrap_u8, fill_byte]
      refine Acc.append (R := byteR) (e := 5) (by_ := 1) (a := (el l i).k) (hA2.keeps (keeps_app _)) (Nat.le_refl _) (by simp; omega) (by omega) (by simp) (by kernel_rfl) (by simp [srcOf, byteR]) (by rfl) (by simp; omega) (by simp [maxLen]; omega) ?_
      intro v4 M4 hA4 hS4
      have hK4 := hS4.keeps (hK2.app _) (Nat.le_refl _)
      have hKl4 := hK4.len
      obtain ⟨f0, f1, f2, f3, f4⟩ := streamEvent_cells (hc.keeps hK4)
      by_cases hj : (el l i).j = 1
      · simp (disch := omega) [f1, hj, f4, wrap_in, wrap_u8, fill_byte]
        refine Acc.append (R := byteR) (e := 5) (by_ := 1) (a := (el l i).u) (hA4.keeps (keeps_app _)) (Nat.le_refl _) (by simp; omega) (by omega) (by simp) (by kernel_rfl) (by simp [srcOf, byteR]) (by rfl) (by simp; omega) (by simp [maxLen]; omega) ?_
        intro v5 M5 hA5 hS5
        have hK5 := hS5.keeps (hK4.app _) (Nat.le_refl _)
        try simp (disch := omega) [h5, wrap_in]
        refine lpI (m - 1) (by omega) ?_
        refine ⟨i + 1, v5, by omega, hK5, by simpa [encP, encE, hs, hj, hq] using hA5, by simp, by simp, ?_, by simp [h0]⟩
        simp [stAt, h4, hs]
        try (simp [stAt] at hs; simp [hs])
      · simp (disch := omega) [f1, hj, h5, wrap_in]
        refine lpI (m - 1) (by omega) ?_
        refine ⟨i + 1, v4, by omega, hK4, by simpa [encP, encE, hs, hj, hq] using hA4, by simp, by simp, ?_, by simp [h0]⟩
        simp [stAt, h4, hs]
        try (simp [stAt] at hs; simp [hs])
    · simp (disch := omega) [h4, hs]
      refine awCall_det' (l20Status_a (hc.keeps hK2) hev) (by omega) ?_
      simp (disch := omega) [h4, hs, wrap_in, wrap_u8, fill_byte]
      refine Acc.append (R := byteR) (e := 5) (by_ := 1) (a := stat (el l i)) (hA2.keeps (keeps_app _)) (Nat.le_refl _) (by simp; omega) (by omega) (by simp) (by kernel_rfl) (by simp [srcOf, byteR]) (by rfl) (by simp; omega) (by simp [maxLen]; omega) ?_
      intro v3 M3 hA3 hS3
      have hK3 := hS3.keeps (hK2.app _) (Nat.le_refl _)
      have hKl3 := hK3.len
      obtain ⟨d0, d1, d2, d3, d4⟩ := streamEvent_cells (hc.keeps hK3)
      simp (disch := omega) [d3, wrap_in, wrap_u8, fill_byte]
      refine Acc.append (R := byteR) (e := 5) (by_ := 1) (a := (el l i).k) (hA3.keeps (keeps_app _)) (Nat.le_refl _) (by simp; omega) (by omega) (by simp) (by kernel_rfl) (by simp [srcOf, byteR]) (by rfl) (by simp; omega) (by simp [maxLen]; omega) ?_
      intro v4 M4 hA4 hS4
      have hK4 := hS4.keeps (hK3.app _) (Nat.le_refl _)
      have hKl4 := hK4.len
      obtain ⟨f0, f1, f2, f3, f4⟩ := streamEvent_cells (hc.keeps hK4)
      by_cases hj : (el l i).j = 1
      · simp (disch := omega) [f1, hj, f4, wrap_in, wrap_u8, fill_byte]
        refine Acc.append (R := byteR) (e := 5) (by_ := 1) (a := (el l i).u) (hA4.keeps (keeps_app _)) (Nat.le_refl _) (by simp; omega) (by omega) (by simp) (by kernel_rfl) (by simp [srcOf, byteR]) (by rfl) (by simp; omega) (by simp [maxLen]; omega) ?_
        intro v5 M5 hA5 hS5
        have hK5 := hS5.keeps (hK4.app _) (Nat.le_refl _)
        try simp (disch := omega) [h5, wrap_in]
        refine lpI (m - 1) (by omega) ?_
        refine ⟨i + 1, v5, by omega, hK5, by simpa [encP, encE, hs, hj, hq] using hA5, by simp, by simp, ?_, by simp [h0]⟩
        simp [stAt, h4, hs]
        try (simp [stAt] at hs; simp [hs])
      · simp (disch := omega) [f1, hj, h5, wrap_in]
        refine lpI (m - 1) (by omega) ?_
        refine ⟨i + 1, v4, by omega, hK4, by simpa [encP, encE, hs, hj, hq] using hA4, by simp, by simp, ?_, by simp [h0]⟩
        simp [stAt, h4, hs]
        try (simp [stAt] at hs; simp [hs])
  · obtain rfl : i = n := by omega
    simp [h5, h3, h0]
    obtain ⟨A', nn, c', rfl, -⟩ := id hA
    simp
    refine acc_str (by_ := 1) (by exact hA) Try.underlying9 (by simp) Try.underlying5 ?_
    simp [encS, hl, hK]
theorem varT_rng : ∀ f n, ∀ x ∈ varT f n, 0 ≤ x ∧ x ≤ 255
  | 0, n => by simp [varT]
  | f + 1, n => by
    intro x hx
    rw [varT] at hx
    split at hx
    · simp at hx
    · rcases List.mem_cons.1 hx with rfl | hx
      · omega
      · exact varT_rng f _ x hx
theorem varB_rng (n : Nat) : ∀ x ∈ varB n, 0 ≤ x ∧ x ≤ 255 := by
  intro x hx
  unfold varB at hx
  rw [List.mem_reverse] at hx
  rcases List.mem_cons.1 hx with rfl | hx
  · omega
  · exact varT_rng _ _ x hx
theorem bstr_size (l : List Int) : (bstr l).size = l.length := by simp [bstr, ByteArray.size]
theorem bstr_cells {l : List Int} (h : ∀ x ∈ l, 0 ≤ x ∧ x ≤ 255) : byteCells (bstr l) = cellsL byteR l := by
  rw [cellsL_byte]
  simp only [byteCells, bstr, List.map_map]
  apply List.map_congr_left
  intro x hx
  have := h x hx
  have e : x.toNat % 256 = x.toNat := by omega
  simp [e]
  omega
theorem cl_live {M : Mem} {id z : Nat} {xs : List Value} {o t : Bool} {e : TypeId} (h : M[id]? = some (.live ⟨xs, o, t, e, z⟩)) : Cl M id 0 xs := fun j x hx => by simp [cellAt, h, hx]
theorem encode_a {M : Mem} {A : Option Addr} {n c : Nat} {l : List StreamEvent} (h : Sl streamEventR M A n l) (hok : okE l = true) : Det Try.prog M.length 71 [.slice A n c] M (.string (encS l)) M := by
  have hl := h.1
  have hn := okE_len hok
  first | (refine det_fn Try.func71 rfl Try.ntmps71 Try.results71 rfl rfl rfl (by simp) ?_) | (refine det_fnC Try.func71 rfl Try.ntmps71 Try.results71 rfl rfl (by simp) ?_)
  simp
  refine awLoop_T (fun m T M' => ∃ (k : Nat) (u : Value), k + m = n ∧ Keeps M M' ∧ Acc byteR 5 M.length M' u (encP l k) ∧ look T 9 = some (iv k) ∧ look T 8 = some (iv n) ∧ look T 7 = some (.slice A n c) ∧ look T 0 = some (.slice A n c) ∧ look T 3 = some u) n ⟨0, .slice (some ⟨M.length, 0, none⟩) 0 0, by omega, keeps_app _, ⟨some ⟨M.length, 0, none⟩, 0, 0, rfl, by simp [encP], .inr ⟨M.length, true, rfl, Nat.le_refl _, by simp [encP, cellsL_byte]⟩⟩, by simp, by simp, by simp, by simp, by simp⟩ ?_
  rintro m T M' ⟨k, u, hm, hK, hA, h9, h8, h7, h0, h3⟩
  have hKl := hK.len
  by_cases hlt : k < n
  · obtain ⟨id, off, rfl, he, hc⟩ := h.at_ hlt
    have hev := okE_el hok (i := k) (by omega)
    have hb := eventB_iff.1 hev
    have hcl := stat_bd hb
    have hpl := encP_len l k
    have hvl := tl_len (el l k).d.toNat
    have hput : putV (el l k).d = bstr (varB (el l k).d.toNat) := by unfold putV; rw [if_pos (inB_iff.2 ⟨hb.1.1, hb.1.2⟩)]
    simp (disch := omega) [h9, h8, h7, h3, hlt, wrap_in, rowEsz_keeps hK he, streamEvent_load (hc.keeps hK)]
    refine awCall_det' (PutVar_i _) (by simp; omega) ?_
    rw [hput]
    try simp
    refine Acc.extend2 (R := byteR) (e := 5) (by_ := 1) (ls := varB (el l k).d.toNat) (hA.keeps (keeps_app _)) (Nat.le_refl _) (by simp; omega) (by simp) (by kernel_rfl) (by simp [srcOf, bstr_size, bstr_cells (varB_rng _)]) (byte_one _) (by omega) (by unfold maxLen; omega) ?_
    intro v2 M2 hA2 hS2 hF2
    have hK2 := hS2.keeps (hK.app _) (Nat.le_refl _)
    have hKl2 := hK2.len
    obtain ⟨x2, a2⟩ := hF2 M'.length _ (hA.apart (Nat.le_refl _)) getElem?_snoc_eq
    have l2 := (List.getElem?_eq_some_iff.1 x2).1
    have L2 := streamEvent_load (g := el l k) (cl_live x2)
    obtain ⟨d0, d1, d2, d3, d4⟩ := streamEvent_cells (g := el l k) (cl_live x2)
    simp only [Nat.zero_add] at d0 d1 d2 d3 d4
    try simp
    refine awDraw_E 10 [[],[0],[1,0],[2,1,0],[2,1,0],[4,2,1,0],[3,2,1,0,5,4],[6,3,2,1,0,5,4],[7,6,3,2,1,0,5,4],[2,1,0],[9,2,1,0,8,7,6,3,5,4],[8,7,6,3,2,1,0,5,4,10,9],[2,1,0,11,8,7,6,3,5,4,10,9]] (by kernel_rfl) (by kernel_rfl) ?_
    rcases k with _ | k
    · simp (disch := omega) [h0, L2]
      refine awCall_det' (statusOf_a _ hev) (by omega) ?_
      simp (disch := omega) [wrap_in, wrap_u8, fill_byte]
      have hs : ¬ stat (el l 0) = stAt l 0 := by simp [stAt]; omega
      refine Acc.append2 (R := byteR) (e := 5) (by_ := 1) (a := stat (el l 0)) (hA2.keeps (keeps_app _)) (Nat.le_refl _) (by simp; omega) (by omega) (by simp) (by kernel_rfl) (by simp [srcOf, byteR]) (by rfl) (by simp; omega) (by simp [maxLen]; omega) ?_
      intro v3 M3 hA3 hS3 hF3
      have hK3 := hS3.keeps (hK2.app _) (Nat.le_refl _)
      have hKl3 := hK3.len
      obtain ⟨x3, a3⟩ := hF3 M'.length _ a2 (by rw [List.getElem?_append_left l2]; exact x2)
      obtain ⟨d0, d1, d2, d3, d4⟩ := streamEvent_cells (g := el l 0) (cl_live x3)
      simp only [Nat.zero_add] at d0 d1 d2 d3 d4
      simp (disch := omega) [d3, wrap_in, wrap_u8, fill_byte]
      refine Acc.append2 (R := byteR) (e := 5) (by_ := 1) (a := (el l 0).k) (hA3.keeps (keeps_app _)) (Nat.le_refl _) (by simp; omega) (by omega) (by simp) (by kernel_rfl) (by simp [srcOf, byteR]) (by rfl) (by simp; omega) (by simp [maxLen]; omega) ?_
      intro v4 M4 hA4 hS4 hF4
      have hK4 := hS4.keeps (hK3.app _) (Nat.le_refl _)
      have hKl4 := hK4.len
      obtain ⟨x4, a4⟩ := hF4 M'.length _ a3 (by rw [List.getElem?_append_left (List.getElem?_eq_some_iff.1 x3).1]; exact x3)
      obtain ⟨f0, f1, f2, f3, f4⟩ := streamEvent_cells (g := el l 0) (cl_live x4)
      simp only [Nat.zero_add] at f0 f1 f2 f3 f4
      by_cases hj : (el l 0).j = 1
      · simp (disch := omega) [f1, hj, f4, wrap_in, wrap_u8, fill_byte]
        refine Acc.append (R := byteR) (e := 5) (by_ := 1) (a := (el l 0).u) (hA4.keeps (keeps_app _)) (Nat.le_refl _) (by simp; omega) (by omega) (by simp) (by kernel_rfl) (by simp [srcOf, byteR]) (by rfl) (by simp; omega) (by simp [maxLen]; omega) ?_
        intro v5 M5 hA5 hS5
        have hK5 := hS5.keeps (hK4.app _) (Nat.le_refl _)
        try simp (disch := omega) [h9, wrap_in]
        refine lpI (m - 1) (by omega) ?_
        exact ⟨0 + 1, v5, by omega, hK5, by simpa [encP, encE, hs, hj] using hA5, by simp, by simp [h8], by simp [h7], by simp [h0], by simp⟩
      · simp (disch := omega) [f1, hj, h9, wrap_in]
        refine lpI (m - 1) (by omega) ?_
        exact ⟨0 + 1, v4, by omega, hK4, by simpa [encP, encE, hs, hj] using hA4, by simp, by simp [h8], by simp [h7], by simp [h0], by simp⟩
    · have hevp := okE_el hok (i := k) (by omega)
      obtain ⟨_, _, e, hep, hcp⟩ := h.at_ (i := k) (by omega)
      cases e
      have hk0 : ¬ ((k : Int) + 1 = 0) := by omega
      have e1 : ((k : Int) + 1 - 1) = k := by omega
      simp (disch := omega) [h0, hk0, e1, wrap_in, rowEsz_keeps hK2 hep, streamEvent_load (hcp.keeps hK2)]
      refine ⟨by omega, ?_⟩
      refine awCall_det' (statusOf_a _ hevp) (Nat.le_refl _) ?_
      simp (disch := omega) [L2]
      refine awCall_det' (statusOf_a _ hev) (by omega) ?_
      by_cases hs' : stat (el l k) = stat (el l (k + 1))
      · have hs : stat (el l (k + 1)) = stAt l (k + 1) := by simp [stAt, hs']
        simp (disch := omega) [hs', d3, wrap_in, wrap_u8, fill_byte]
        refine Acc.append2 (R := byteR) (e := 5) (by_ := 1) (a := (el l (k + 1)).k) (hA2.keeps (keeps_app _)) (Nat.le_refl _) (by simp; omega) (by omega) (by simp) (by kernel_rfl) (by simp [srcOf, byteR]) (by rfl) (by simp; omega) (by simp [maxLen]; omega) ?_
        intro v4 M4 hA4 hS4 hF4
        have hK4 := hS4.keeps (hK2.app _) (Nat.le_refl _)
        have hKl4 := hK4.len
        obtain ⟨x4, a4⟩ := hF4 M'.length _ a2 (by rw [List.getElem?_append_left (List.getElem?_eq_some_iff.1 x2).1]; exact x2)
        obtain ⟨f0, f1, f2, f3, f4⟩ := streamEvent_cells (g := el l (k + 1)) (cl_live x4)
        simp only [Nat.zero_add] at f0 f1 f2 f3 f4
        by_cases hj : (el l (k + 1)).j = 1
        · simp (disch := omega) [f1, hj, f4, wrap_in, wrap_u8, fill_byte]
          refine Acc.append (R := byteR) (e := 5) (by_ := 1) (a := (el l (k + 1)).u) (hA4.keeps (keeps_app _)) (Nat.le_refl _) (by simp; omega) (by omega) (by simp) (by kernel_rfl) (by simp [srcOf, byteR]) (by rfl) (by simp; omega) (by simp [maxLen]; omega) ?_
          intro v5 M5 hA5 hS5
          have hK5 := hS5.keeps (hK4.app _) (Nat.le_refl _)
          try simp (disch := omega) [h9, wrap_in]
          refine lpI (m - 1) (by omega) ?_
          exact ⟨(k + 1) + 1, v5, by omega, hK5, by simpa [encP, encE, hs, hj] using hA5, by simp, by simp [h8], by simp [h7], by simp [h0], by simp⟩
        · simp (disch := omega) [f1, hj, h9, wrap_in]
          refine lpI (m - 1) (by omega) ?_
          exact ⟨(k + 1) + 1, v4, by omega, hK4, by simpa [encP, encE, hs, hj] using hA4, by simp, by simp [h8], by simp [h7], by simp [h0], by simp⟩
      · have hs : ¬ stat (el l (k + 1)) = stAt l (k + 1) := by simpa [stAt] using fun e => hs' e.symm
        simp (disch := omega) [hs', L2]
        refine awCall_det' (statusOf_a _ hev) (by omega) ?_
        simp (disch := omega) [wrap_in, wrap_u8, fill_byte]
        refine Acc.append2 (R := byteR) (e := 5) (by_ := 1) (a := stat (el l (k + 1))) (hA2.keeps (keeps_app _)) (Nat.le_refl _) (by simp; omega) (by omega) (by simp) (by kernel_rfl) (by simp [srcOf, byteR]) (by rfl) (by simp; omega) (by simp [maxLen]; omega) ?_
        intro v3 M3 hA3 hS3 hF3
        have hK3 := hS3.keeps (hK2.app _) (Nat.le_refl _)
        have hKl3 := hK3.len
        obtain ⟨x3, a3⟩ := hF3 M'.length _ a2 (by rw [List.getElem?_append_left l2]; exact x2)
        obtain ⟨d0, d1, d2, d3, d4⟩ := streamEvent_cells (g := el l (k + 1)) (cl_live x3)
        simp only [Nat.zero_add] at d0 d1 d2 d3 d4
        simp (disch := omega) [d3, wrap_in, wrap_u8, fill_byte]
        refine Acc.append2 (R := byteR) (e := 5) (by_ := 1) (a := (el l (k + 1)).k) (hA3.keeps (keeps_app _)) (Nat.le_refl _) (by simp; omega) (by omega) (by simp) (by kernel_rfl) (by simp [srcOf, byteR]) (by rfl) (by simp; omega) (by simp [maxLen]; omega) ?_
        intro v4 M4 hA4 hS4 hF4
        have hK4 := hS4.keeps (hK3.app _) (Nat.le_refl _)
        have hKl4 := hK4.len
        obtain ⟨x4, a4⟩ := hF4 M'.length _ a3 (by rw [List.getElem?_append_left (List.getElem?_eq_some_iff.1 x3).1]; exact x3)
        obtain ⟨f0, f1, f2, f3, f4⟩ := streamEvent_cells (g := el l (k + 1)) (cl_live x4)
        simp only [Nat.zero_add] at f0 f1 f2 f3 f4
        by_cases hj : (el l (k + 1)).j = 1
        · simp (disch := omega) [f1, hj, f4, wrap_in, wrap_u8, fill_byte]
          refine Acc.append (R := byteR) (e := 5) (by_ := 1) (a := (el l (k + 1)).u) (hA4.keeps (keeps_app _)) (Nat.le_refl _) (by simp; omega) (by omega) (by simp) (by kernel_rfl) (by simp [srcOf, byteR]) (by rfl) (by simp; omega) (by simp [maxLen]; omega) ?_
          intro v5 M5 hA5 hS5
          have hK5 := hS5.keeps (hK4.app _) (Nat.le_refl _)
          try simp (disch := omega) [h9, wrap_in]
          refine lpI (m - 1) (by omega) ?_
          exact ⟨(k + 1) + 1, v5, by omega, hK5, by simpa [encP, encE, hs, hj] using hA5, by simp, by simp [h8], by simp [h7], by simp [h0], by simp⟩
        · simp (disch := omega) [f1, hj, h9, wrap_in]
          refine lpI (m - 1) (by omega) ?_
          exact ⟨(k + 1) + 1, v4, by omega, hK4, by simpa [encP, encE, hs, hj] using hA4, by simp, by simp [h8], by simp [h7], by simp [h0], by simp⟩
  · obtain rfl : k = n := by omega
    simp [h9, h8, h3]
    obtain ⟨A', nn, c', rfl, -⟩ := id hA
    simp
    refine acc_str (by_ := 1) (by exact hA) Try.underlying9 (by simp) Try.underlying5 ?_
    simp [encS, hl, hK]
def encV (l : List StreamEvent) : ByteArray × Int := if okE l = false then (bstr [], 1) else (encS l, 0)










theorem EncodeStream_i {M : Mem} {A : Option Addr} {n c : Nat} {l : List StreamEvent} (h : Sl streamEventR M A n l) (hn : n ≤ 1099511627776) : Det Try.prog M.length 26 [.slice A n c] M (.tuple #[.string (encV l).1, iv (encV l).2]) M := by
  first | (refine det_fn Try.func26 rfl Try.ntmps26 Try.results26 rfl rfl rfl (by simp) ?_) | (refine det_fnC Try.func26 rfl Try.ntmps26 Try.results26 rfl rfl (by simp) ?_)
  simp
  refine awCall_det' (isStream_a h (by omega)) (by simp) ?_
  by_cases hok : okE l = true
  · simp [hok]
    refine awCall_det' (encode_a h hok) (by simp) ?_
    simp [encV, hok, Keeps.refl]
  · simp at hok
    simp [encV, hok, bstr, Keeps.refl]



theorem EncodeStream_il {M : Mem} {v : Value} {lo hi : Nat} {x : List StreamEvent} (hx : RdL streamEventR lo hi M v x) (ex : x.length ≤ 1048576) : Det Try.prog M.length 26 [v] M (.tuple #[.string (encV x).1, iv (encV x).2]) M := by
  obtain ⟨A, n, c, rfl, hn, hS, _⟩ := hx
  exact EncodeStream_i hS (by have := hS.1; omega)
end Go.Proofs.Ythopcmglcnlcfaa
