/- Curves: are two equal. No conditions. -/
import Derived.Test.YtaacgipfmmomiaaHCurve
namespace Go.Proofs.Ytaacgipfmmomiaa
open Go.RowKit
set_option linter.unusedVariables false
set_option linter.unusedSimpArgs false
set_option maxRecDepth 100000
attribute [local simp] List.getElem?_cons_zero
attribute [local irreducible] awCond awCall awLoop awDraw ow retQ retC resQ Keeps
theorem SameCurve_s {M : Mem} {A B : Option Addr} {n c m d : Nat} {x y : List CurvePoint} (hx : Sl curvePointR M A n x) (hy : Sl curvePointR M B m y) (hn : n ≤ 1099511627776) : Det Try.prog M.length 23 [.agg #[.slice A n c], .agg #[.slice B m d]] M (.bool (decide (x = y))) M := by
  have hlx := hx.1
  have hly := hy.1
  first | (refine det_fn Try.func23 rfl Try.ntmps23 Try.results23 rfl rfl rfl (by simp) ?_) | (refine det_fnC Try.func23 rfl Try.ntmps23 Try.results23 rfl rfl (by simp) ?_)
  simp
  refine awCond_split ?_ ?_ <;> intro hnm
  · simp at hnm
    simp [keeps_app]
    intro e; subst e; omega
  · simp at hnm
    obtain rfl : n = m := by omega
    simp
    refine awLoop_T (fun m T M' => ∃ k : Nat, k + m = n ∧ M' = M ++ [.live ⟨[.slice A n c], true, true, 43, 1⟩, .live ⟨[.slice B n d], true, true, 43, 1⟩] ∧ look T 5 = some (iv k) ∧ look T 2 = some (.pointer (some ⟨M.length, 0, none⟩)) ∧ look T 3 = some (.pointer (some ⟨M.length + 1, 0, none⟩)) ∧ x.take k = y.take k) n ⟨0, by omega, by simp, by simp, by simp, by simp, by simp⟩ ?_
    rintro m T M' ⟨k, hm, rfl, h5, h2, h3, hk⟩
    by_cases hlt : k < n
    · obtain ⟨id, off, rfl, he, hc⟩ := hx.at_ hlt
      obtain ⟨id', off', rfl, he', hc'⟩ := hy.at_ hlt
      simp (disch := omega) [h5, h2, h3, hlt, wrap_in]
      refine awDraw_E 10 [[],[0],[],[1,0,2],[3,1,0,2],[],[5],[],[6,5,7],[8,6,5,7],[4,3,1,0,2,9,8,6,5,7]] (by kernel_rfl) (by kernel_rfl) ?_
      simp (disch := omega) [h5, h2, h3, hlt, wrap_in, rowEsz_keeps (keeps_app _) he, rowEsz_keeps (keeps_app _) he', cellsAt_app (curvePoint_load hc), cellsAt_app (curvePoint_load hc'), curvePoint_neq]
      refine awCond_split ?_ ?_ <;> intro he
      · simp at he
        simp [keeps_app]
        exact fun e => he (by rw [e])
      · simp at he
        simp (disch := omega) [h5, h2, h3, wrap_in]
        refine lpI (m - 1) (by omega) ?_
        exact ⟨k + 1, by omega, rfl, by simp, by simp [h2], by simp [h3], by rw [take_el (by omega), take_el (by omega), hk, he]⟩
    · obtain rfl : k = n := by omega
      rw [List.take_of_length_le (by omega), List.take_of_length_le (by omega)] at hk
      simp [h5, h2, h3, hk, keeps_app]
theorem EqualP_a {M : Mem} {A B : Option Addr} {n c m d : Nat} {x y : List CurvePoint} (hx : Sl curvePointR M A n x) (hy : Sl curvePointR M B m y) (hn : n ≤ 1099511627776) : Det Try.prog M.length 61 [.slice A n c, .slice B m d] M (.bool (decide (x = y))) M := by
  have hlx := hx.1
  have hly := hy.1
  first | (refine det_fn Try.func61 rfl Try.ntmps61 Try.results61 rfl rfl rfl (by simp) ?_) | (refine det_fnC Try.func61 rfl Try.ntmps61 Try.results61 rfl rfl (by simp) ?_)
  simp
  refine awCond_split ?_ ?_ <;> intro hnm
  · simp at hnm
    simp
    exact ⟨fun e => by subst e; omega, Keeps.refl _⟩
  · simp at hnm
    obtain rfl : n = m := by omega
    simp
    refine awLoop_T (fun m T M' => ∃ k : Nat, k + m = n ∧ M' = M ∧ look T 13 = some (iv k) ∧ look T 12 = some (iv n) ∧ look T 11 = some (.slice A n c) ∧ look T 0 = some (.slice A n c) ∧ look T 1 = some (.slice B n d) ∧ x.take k = y.take k) n ⟨0, by omega, rfl, by simp, by simp, by simp, by simp, by simp, by simp⟩ ?_
    rintro m T M' ⟨k, hm, rfl, h13, h12, h11, h0, h1, hk⟩
    by_cases hlt : k < n
    · obtain ⟨id, off, rfl, he, hc⟩ := hx.at_ hlt
      obtain ⟨id', off', rfl, he', hc'⟩ := hy.at_ hlt
      simp (disch := omega) [h13, h12, h11, h0, h1, hlt, wrap_in]
      refine awDraw_E 8 [[],[],[0,1],[2,0,1],[],[],[4,5],[6,4,5],[3,2,0,1,7,6,4,5]] (by kernel_rfl) (by kernel_rfl) ?_
      simp (disch := omega) [h13, h12, h11, h0, h1, hlt, wrap_in, curvePoint_load hc, curvePoint_load hc', curvePoint_neq]
      refine awCond_split ?_ ?_ <;> intro he
      · simp at he
        simp
        exact ⟨fun e => he (by rw [e]), Keeps.refl _⟩
      · simp at he
        simp (disch := omega) [h13, h12, h11, h0, h1, wrap_in]
        refine lpI (m - 1) (by omega) ?_
        exact ⟨k + 1, by omega, rfl, by simp, by simp [h12], by simp [h11], by simp [h0], by simp [h1], by rw [take_el (by omega), take_el (by omega), hk, he]⟩
    · obtain rfl : k = n := by omega
      rw [List.take_of_length_le (by omega), List.take_of_length_le (by omega)] at hk
      simp [h13, h12, h11, h0, h1, hk, Keeps.refl]
theorem SameCurve_i {M : Mem} {A B : Option Addr} {n c m d : Nat} {x y : List CurvePoint} (hx : Sl curvePointR M A n x) (hy : Sl curvePointR M B m y) (hn : n ≤ 1099511627776) : Det Try.prog M.length 25 [.agg #[.slice A n c], .agg #[.slice B m d]] M (.bool (decide (x = y))) M := by
  first | (refine det_fn Try.func25 rfl Try.ntmps25 Try.results25 rfl rfl rfl (by simp) ?_) | (refine det_fnC Try.func25 rfl Try.ntmps25 Try.results25 rfl rfl (by simp) ?_)
  simp
  refine awCall_det' (EqualP_a (hx.keeps (keeps_app _)) (hy.keeps (keeps_app _)) hn) (by simp) ?_
  simp [keeps_app]
theorem SameCurve_sl {M : Mem} {v w : Value} {lo hi lo' hi' : Nat} {x y : List CurvePoint} (hx : RdL curvePointR lo hi M v x) (hy : RdL curvePointR lo' hi' M w y) (ex : x.length ≤ 1048576) : Det Try.prog M.length 23 [.agg #[v], .agg #[w]] M (.bool (decide (x = y))) M := by
  obtain ⟨A, n, c, rfl, hn, hS, _⟩ := hx
  obtain ⟨B, m, d, rfl, hm, hT, _⟩ := hy
  exact SameCurve_s hS hT (by have := hS.1; omega)
theorem SameCurve_il {M : Mem} {v w : Value} {lo hi lo' hi' : Nat} {x y : List CurvePoint} (hx : RdL curvePointR lo hi M v x) (hy : RdL curvePointR lo' hi' M w y) (ex : x.length ≤ 1048576) : Det Try.prog M.length 25 [.agg #[v], .agg #[w]] M (.bool (decide (x = y))) M := by
  obtain ⟨A, n, c, rfl, hn, hS, _⟩ := hx
  obtain ⟨B, m, d, rfl, hm, hT, _⟩ := hy
  exact SameCurve_i hS hT (by have := hS.1; omega)
end Go.Proofs.Ytaacgipfmmomiaa
