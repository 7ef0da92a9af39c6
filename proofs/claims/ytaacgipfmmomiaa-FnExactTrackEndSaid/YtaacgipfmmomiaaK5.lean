/- Tracks: the end. No conditions. -/
import Derived.Test.YtaacgipfmmomiaaK3
namespace Go.Proofs.Ytaacgipfmmomiaa
open Go.RowKit
set_option linter.unusedVariables false
set_option linter.unusedSimpArgs false
set_option maxRecDepth 100000
attribute [local simp] List.getElem?_cons_zero
attribute [local irreducible] awCond awCall awLoop awDraw ow retQ retC resQ Keeps
def endC (l : List Clip) : Int := l.foldl (fun a c => max a (c.at_ + c.len)) 0
theorem endC_snoc (l : List Clip) (c : Clip) : endC (l ++ [c]) = max (endC l) (c.at_ + c.len) := by simp [endC]
theorem endC_bd : ∀ (l : List Clip) (a : Int), 0 ≤ a → a ≤ 4000 → (∀ c ∈ l, clipB c = true) → 0 ≤ l.foldl (fun a c => max a (c.at_ + c.len)) a ∧ l.foldl (fun a c => max a (c.at_ + c.len)) a ≤ 4000
  | [], a, h0, h1, _ => ⟨h0, h1⟩
  | c :: l, a, h0, h1, h => by
    have hc := h c (by simp)
    simp only [clipB, Bool.and_eq_true, inB_iff] at hc
    exact endC_bd l (max a (c.at_ + c.len)) (by omega) (by omega) fun x hx => h x (by simp [hx])
theorem okC_mem {l : List Clip} (h : okC l = true) : ∀ c ∈ l, clipB c = true := by
  intro c hc
  obtain ⟨i, hi, rfl⟩ := List.getElem_of_mem hc
  rw [el_eq hi]
  exact okC_el h hi
def endV (l : List Clip) : Int × Int := if okC l = false then (0, 1) else (endC l, 0)
theorem l00Max_a {M : Mem} (a b : Int) : Det Try.prog M.length 57 [iv a, iv b] M (iv (max a b)) M := by
  first | (refine det_fn Try.func57 rfl Try.ntmps57 Try.results57 rfl rfl rfl (by simp) ?_) | (refine det_fnC Try.func57 rfl Try.ntmps57 Try.results57 rfl rfl (by simp) ?_)
  simp
  refine awCond_split ?_ ?_ <;> intro h <;> simp at h
  · simp [Keeps.refl]
    omega
  · simp [Keeps.refl]
    omega
theorem clipB_iff {c : Clip} : clipB c = true ↔ (0 ≤ c.src ∧ c.src ≤ 5) ∧ (1 ≤ c.len ∧ c.len ≤ 4000) ∧ (0 ≤ c.fr ∧ c.fr ≤ 4000 - c.len) ∧ (0 ≤ c.at_ ∧ c.at_ ≤ 4000 - c.len) ∧ (-2147483648 ≤ c.gain ∧ c.gain ≤ 2147483647) := by
  simp only [clipB, Bool.and_eq_true, inB_iff]
  constructor <;> (rintro h; simp only [and_assoc] at h ⊢; exact h)
theorem TrackEnd_s {M : Mem} {A : Option Addr} {n c : Nat} {l : List Clip} (h : Sl clipR M A n l) (hn : n ≤ 1099511627776) : Det Try.prog M.length 20 [.agg #[.slice A n c]] M (.tuple #[iv (endV l).1, iv (endV l).2]) M := by
  have hl := h.1
  first | (refine det_fn Try.func20 rfl Try.ntmps20 Try.results20 rfl rfl rfl (by simp) ?_) | (refine det_fnC Try.func20 rfl Try.ntmps20 Try.results20 rfl rfl (by simp) ?_)
  simp
  refine awCall_det' (l23Ok_a (A := A) (n := n) (c := c) (by simp) (h.keeps (keeps_app _)) (by omega)) (by simp) ?_
  by_cases hok : okC l = true
  · simp [hok]
    refine awLoop_T (fun m T M' => ∃ i : Nat, i + m = n ∧ M' = M ++ [.live ⟨[.slice A n c], true, true, 29, 1⟩] ∧ look T 5 = some (iv i) ∧ look T 4 = some (iv (endC (l.take i))) ∧ look T 1 = some (.pointer (some ⟨M.length, 0, none⟩))) n ⟨0, by omega, rfl, by simp, by simp [endC], by simp⟩ ?_
    rintro m T M' ⟨i, hm, rfl, h5, h4, h1⟩
    by_cases hlt : i < n
    · obtain ⟨id, off, rfl, he, hc⟩ := h.at_ hlt
      obtain ⟨c0, c1, c2, c3, c4⟩ := clip_cells hc
      have hb := clipB_iff.1 (okC_el hok (i := i) (by omega))
      simp (disch := omega) [h5, h4, h1, hlt, wrap_in]
      refine awDraw_E 14 [[],[],[1],[],[2,1,3],[4,2,1,3],[5,4,2,1,3],[],[7],[],[8,7,9],[10,8,7,9],[11,10,8,7,9],[6,5,4,2,1,3,12,11,10,8,7,9],[0,13,6,5,4,2,1,3,12,11,10,8,7,9],[14,0,13,6,5,4,2,1,3,12,11,10,8,7,9]] (by kernel_rfl) (by kernel_rfl) ?_
      simp (disch := omega) [h5, h4, h1, hlt, wrap_in, cellAt_app c2, cellAt_app c3, rowEsz_keeps (keeps_app _) he]
      refine awCall_det' (l00Max_a _ _) (by simp) ?_
      try simp (disch := omega) [h5, h4, h1, wrap_in]
      refine lpI (m - 1) (by omega) ?_
      exact ⟨i + 1, by omega, rfl, by simp, by simp [take_el (show i < l.length by omega), endC_snoc], by simp [h1]⟩
    · obtain rfl : i = n := by omega
      rw [List.take_of_length_le (by omega)] at h4
      simp [h5, h4, h1, endV, hok, keeps_app]
  · simp at hok
    simp [hok, endV, keeps_app]
theorem trackEnd_a {M : Mem} {A : Option Addr} {n c : Nat} {l : List Clip} (h : Sl clipR M A n l) (hok : okC l = true) : Det Try.prog M.length 58 [.agg #[.slice A n c]] M (iv (endC l)) M := by
  have hl := h.1
  have hn := okC_len hok
  first | (refine det_fn Try.func58 rfl Try.ntmps58 Try.results58 rfl rfl rfl (by simp) ?_) | (refine det_fnC Try.func58 rfl Try.ntmps58 Try.results58 rfl rfl (by simp) ?_)
  simp
  refine awLoop_T (fun m T M' => ∃ i : Nat, i + m = n ∧ Keeps M M' ∧ look T 9 = some (iv i) ∧ look T 8 = some (iv n) ∧ look T 7 = some (.slice A n c) ∧ look T 3 = some (iv (endC (l.take i)))) n ⟨0, by omega, keeps_app _, by simp, by simp, by simp, by simp [endC]⟩ ?_
  rintro m T M' ⟨i, hm, hK, h9, h8, h7, h3⟩
  by_cases hlt : i < n
  · have h' := h.keeps hK
    have hKl := hK.len
    obtain ⟨id, off, rfl, he, hc⟩ := h'.at_ hlt
    have hb := clipB_iff.1 (okC_el hok (i := i) (by omega))
    simp (disch := omega) [h9, h8, h7, h3, hlt, wrap_in, clip_load hc]
    refine lpI (m - 1) (by omega) ?_
    refine ⟨i + 1, by omega, hK.app _, by simp, by simp [h8], by simp [h7], ?_⟩
    rw [take_el (show i < l.length by omega), endC_snoc]
    simp
    try (split <;> omega)
  · obtain rfl : i = n := by omega
    rw [List.take_of_length_le (by omega)] at h3
    simp [h9, h8, h7, h3, hK]
theorem TrackEnd_i {M : Mem} {A : Option Addr} {n c : Nat} {l : List Clip} (h : Sl clipR M A n l) (hn : n ≤ 1099511627776) : Det Try.prog M.length 21 [.agg #[.slice A n c]] M (.tuple #[iv (endV l).1, iv (endV l).2]) M := by
  first | (refine det_fn Try.func21 rfl Try.ntmps21 Try.results21 rfl rfl rfl (by simp) ?_) | (refine det_fnC Try.func21 rfl Try.ntmps21 Try.results21 rfl rfl (by simp) ?_)
  simp
  refine awCall_det' (isTrack_a (h.keeps (keeps_app _)) (by omega)) (by simp) ?_
  by_cases hok : okC l = true
  · simp [hok]
    refine awCall_det' (trackEnd_a (h.keeps (keeps_app _)) hok) (by simp) ?_
    simp [endV, hok, keeps_app]
  · simp at hok
    simp [hok, endV, keeps_app]
theorem TrackEnd_sl {M : Mem} {v : Value} {lo hi : Nat} {l : List Clip} (h : RdL clipR lo hi M v l) (hl : l.length ≤ 1048576) : Det Try.prog M.length 20 [.agg #[v]] M (.tuple #[iv (endV l).1, iv (endV l).2]) M := by
  obtain ⟨A, n, c, rfl, hn, hS, _⟩ := h
  exact TrackEnd_s hS (by have := hS.1; omega)
theorem TrackEnd_il {M : Mem} {v : Value} {lo hi : Nat} {l : List Clip} (h : RdL clipR lo hi M v l) (hl : l.length ≤ 1048576) : Det Try.prog M.length 21 [.agg #[v]] M (.tuple #[iv (endV l).1, iv (endV l).2]) M := by
  obtain ⟨A, n, c, rfl, hn, hS, _⟩ := h
  exact TrackEnd_i hS (by have := hS.1; omega)
end Go.Proofs.Ytaacgipfmmomiaa
