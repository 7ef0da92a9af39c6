/- Curve: a struct that holds a slice of records. No conditions. -/
import Derived.Test.YtaacgipfmmomiaaHCurvePoint
namespace Go.Proofs.Ytaacgipfmmomiaa
open Go.RowKit
set_option linter.unusedVariables false
set_option linter.unusedSimpArgs false
set_option maxRecDepth 100000
attribute [local simp] List.getElem?_cons_zero
attribute [local irreducible] awCond awCall awLoop awDraw ow retQ retC resQ Keeps
theorem sz_Curve_over {M : Mem} {v : Value} {lo hi : Nat} {l : List CurvePoint} {z : Int} (h : RdL curvePointR lo hi M v l) (hz : 0 ≤ z) (hz1 : z ≤ 1048576) (hl : z < l.length) : Det Try.prog M.length 22 [.agg #[v], iv z] M (iv (-1)) M := by
  first | (refine det_fn Try.func22 rfl Try.ntmps22 Try.results22 rfl rfl rfl (by simp) ?_) | (refine det_fnC Try.func22 rfl Try.ntmps22 Try.results22 rfl rfl (by simp) ?_)
  simp
  refine awCall_det' (sz_CurvePointS_over (h.keeps (keeps_app _)) hz hz1 hl) (by simp) ?_
  simp [keeps_app]
theorem sz_Curve {M : Mem} {v : Value} {lo hi : Nat} {l : List CurvePoint} {z : Int} (h : RdL curvePointR lo hi M v l) (hz : 0 ≤ z) (hz1 : z ≤ 1048576) (hl : l.length ≤ z) : Det Try.prog M.length 22 [.agg #[v], iv z] M (iv (z - l.length)) M := by
  first | (refine det_fn Try.func22 rfl Try.ntmps22 Try.results22 rfl rfl rfl (by simp) ?_) | (refine det_fnC Try.func22 rfl Try.ntmps22 Try.results22 rfl rfl (by simp) ?_)
  simp
  refine awCall_det' (sz_CurvePointS (h.keeps (keeps_app _)) hz hz1 hl) (by simp) ?_
  have h0 : ¬ z - l.length < 0 := by omega
  simp [keeps_app, h0]
theorem to_Curve_d {M : Mem} {v : Value} {lo hi : Nat} {l : List CurvePoint} (h : RdL curvePointR lo hi M v l) (hl : l.length ≤ 1048576) : ∃ u N, Det Try.prog M.length 24 [.agg #[v]] M (.agg #[u]) (M ++ N) ∧ OwL curvePointR M.length (M ++ N).length (M ++ N) u l := by
  obtain ⟨A, n, c, rfl, hn, hS, _⟩ := h
  have hl' := hS.1
  refine ⟨.slice (some ⟨M.length + 3, 0, none⟩) n n, [.live ⟨[.slice A n c], true, true, 38, 1⟩, .live ⟨[.slice (some ⟨M.length + 3, 0, none⟩) n n], true, true, 43, 1⟩, .live ⟨[.slice (some ⟨M.length + 3, 0, none⟩) n n], true, true, 43, 1⟩, .live ⟨cellsL curvePointR l, true, true, 83, 2⟩], ?_, ?_⟩
  · refine Ctr.det ?_
    first | (refine ctr_fn Try.func24 rfl Try.ntmps24 Try.results24 rfl rfl (by simp) ?_) | (refine ctr_fnC Try.func24 rfl Try.ntmps24 Try.results24 rfl (by simp) ?_)
    simp
    refine awCall_det' ((toCurvePointS_d (hS.keeps (keeps_app _)) (by omega))) (by simp) ?_
    simp
  · refine ⟨_, n, n, rfl, by omega, ⟨hl', fun _ => ⟨M.length + 3, 0, rfl, by simp [rowEsz], fun j x hx => by simp [cellAt, hx]⟩⟩, fun a e _ => by injection e with e; subst e; simp, fun _ => ⟨_, _, ⟨cellsL curvePointR l, true, true, 83, 2⟩, rfl, by simp, rfl⟩⟩
theorem eq_Curve {M : Mem} {v w : Value} {lo hi lo' hi' : Nat} {x y : List CurvePoint} (hx : OwL curvePointR lo hi M v x) (hy : RdL curvePointR lo' hi' M w y) : Det Try.prog M.length 26 [.agg #[v], .agg #[w]] M (.bool (decide (x = y))) M := by
  first | (refine det_fn Try.func26 rfl Try.ntmps26 Try.results26 rfl rfl rfl (by simp) ?_) | (refine det_fnC Try.func26 rfl Try.ntmps26 Try.results26 rfl rfl (by simp) ?_)
  simp
  refine awCall_det' (eq_CurvePointS (hx.keeps (keeps_app _)) (hy.keeps (keeps_app _))) (by simp) ?_
  by_cases e : x = y
  · simp [keeps_app, e]
  · simp [keeps_app, e]
theorem mark_Curve {M : Mem} {b : Nat} {v : Value} {lo hi : Nat} {l : List CurvePoint} {z : Int} (h : OwL curvePointR lo hi M v l) (hb : b ≤ lo) (hz : 0 ≤ z) (hz1 : z ≤ 1152921504606846976) :
    Ctr Try.prog b 33 [.agg #[v], iv z] M fun r M' => r = iv (z + l.length * 2) ∧ OwL curvePointR lo hi M' v (markCurvePointL z l.length) ∧ Turn lo hi M M' := by
  first | (refine ctr_fn Try.func33 rfl Try.ntmps33 Try.results33 rfl rfl (by simp) ?_) | (refine ctr_fnC Try.func33 rfl Try.ntmps33 Try.results33 rfl (by simp) ?_)
  simp
  refine awCall_ctr (mark_CurvePointS (h.keeps (keeps_app _)) hb hz hz1) ?_
  rintro _ M' ⟨rfl, o, ht⟩
  simp
  exact ⟨o, ht.app⟩
theorem held_Curve {M : Mem} {v : Value} {lo hi m : Nat} {z : Int} (h : OwL curvePointR lo hi M v (markCurvePointL z m)) (hz : 0 ≤ z) (hz1 : z ≤ 1152921504606846976) : Det Try.prog M.length 34 [.agg #[v], iv z] M (iv (z + m * 2)) M := by
  first | (refine det_fn Try.func34 rfl Try.ntmps34 Try.results34 rfl rfl rfl (by simp) ?_) | (refine det_fnC Try.func34 rfl Try.ntmps34 Try.results34 rfl rfl (by simp) ?_)
  simp
  refine awCall_det' (held_CurvePointS (h.keeps (keeps_app _)) hz hz1) (by simp) ?_
  have h0 : ¬ z + m * 2 < 0 := by omega
  simp [keeps_app, h0]
end Go.Proofs.Ytaacgipfmmomiaa
