/- TempoMap: a struct that holds a slice of records. No conditions. -/
import Derived.Test.YtgaiejaegimilaaHTempo
namespace Go.Proofs.Ytgaiejaegimilaa
open Go.RowKit
set_option linter.unusedVariables false
set_option linter.unusedSimpArgs false
set_option maxRecDepth 100000
attribute [local simp] List.getElem?_cons_zero
attribute [local irreducible] awCond awCall awLoop awDraw ow retQ retC resQ Keeps
theorem sz_TempoMap_over {M : Mem} {v : Value} {lo hi : Nat} {l : List Tempo} {z : Int} (h : RdL tempoR lo hi M v l) (hz : 0 ≤ z) (hz1 : z ≤ 1048576) (hl : z < l.length) : Det Try.prog M.length 15 [.agg #[v], iv z] M (iv (-1)) M := by
  first | (refine det_fn Try.func15 rfl Try.ntmps15 Try.results15 rfl rfl rfl (by simp) ?_) | (refine det_fnC Try.func15 rfl Try.ntmps15 Try.results15 rfl rfl (by simp) ?_)
  simp
  refine awCall_det' (sz_TempoS_over (h.keeps (keeps_app _)) hz hz1 hl) (by simp) ?_
  simp [keeps_app]
theorem sz_TempoMap {M : Mem} {v : Value} {lo hi : Nat} {l : List Tempo} {z : Int} (h : RdL tempoR lo hi M v l) (hz : 0 ≤ z) (hz1 : z ≤ 1048576) (hl : l.length ≤ z) : Det Try.prog M.length 15 [.agg #[v], iv z] M (iv (z - l.length)) M := by
  first | (refine det_fn Try.func15 rfl Try.ntmps15 Try.results15 rfl rfl rfl (by simp) ?_) | (refine det_fnC Try.func15 rfl Try.ntmps15 Try.results15 rfl rfl (by simp) ?_)
  simp
  refine awCall_det' (sz_TempoS (h.keeps (keeps_app _)) hz hz1 hl) (by simp) ?_
  have h0 : ¬ z - l.length < 0 := by omega
  simp [keeps_app, h0]
theorem to_TempoMap_d {M : Mem} {v : Value} {lo hi : Nat} {l : List Tempo} (h : RdL tempoR lo hi M v l) (hl : l.length ≤ 1048576) : ∃ u N, Det Try.prog M.length 17 [.agg #[v]] M (.agg #[u]) (M ++ N) ∧ OwL tempoR M.length (M ++ N).length (M ++ N) u l := by
  obtain ⟨A, n, c, rfl, hn, hS, _⟩ := h
  have hl' := hS.1
  refine ⟨.slice (some ⟨M.length + 3, 0, none⟩) n n, [.live ⟨[.slice A n c], true, true, 36, 1⟩, .live ⟨[.slice (some ⟨M.length + 3, 0, none⟩) n n], true, true, 43, 1⟩, .live ⟨[.slice (some ⟨M.length + 3, 0, none⟩) n n], true, true, 43, 1⟩, .live ⟨cellsL tempoR l, true, true, 148, 3⟩], ?_, ?_⟩
  · refine Ctr.det ?_
    first | (refine ctr_fn Try.func17 rfl Try.ntmps17 Try.results17 rfl rfl (by simp) ?_) | (refine ctr_fnC Try.func17 rfl Try.ntmps17 Try.results17 rfl (by simp) ?_)
    simp
    refine awCall_det' ((toTempoS_d (hS.keeps (keeps_app _)) (by omega))) (by simp) ?_
    simp
  · refine ⟨_, n, n, rfl, by omega, ⟨hl', fun _ => ⟨M.length + 3, 0, rfl, by simp [rowEsz], fun j x hx => by simp [cellAt, hx]⟩⟩, fun a e _ => by injection e with e; subst e; simp, fun _ => ⟨_, _, ⟨cellsL tempoR l, true, true, 148, 3⟩, rfl, by simp, rfl⟩⟩
theorem eq_TempoMap {M : Mem} {v w : Value} {lo hi lo' hi' : Nat} {x y : List Tempo} (hx : OwL tempoR lo hi M v x) (hy : RdL tempoR lo' hi' M w y) : Det Try.prog M.length 20 [.agg #[v], .agg #[w]] M (.bool (decide (x = y))) M := by
  first | (refine det_fn Try.func20 rfl Try.ntmps20 Try.results20 rfl rfl rfl (by simp) ?_) | (refine det_fnC Try.func20 rfl Try.ntmps20 Try.results20 rfl rfl (by simp) ?_)
  simp
  refine awCall_det' (eq_TempoS (hx.keeps (keeps_app _)) (hy.keeps (keeps_app _))) (by simp) ?_
  by_cases e : x = y
  · simp [keeps_app, e]
  · simp [keeps_app, e]
theorem mark_TempoMap {M : Mem} {b : Nat} {v : Value} {lo hi : Nat} {l : List Tempo} {z : Int} (h : OwL tempoR lo hi M v l) (hb : b ≤ lo) (hz : 0 ≤ z) (hz1 : z ≤ 1152921504606846976) :
    Ctr Try.prog b 22 [.agg #[v], iv z] M fun r M' => r = iv (z + l.length * 3) ∧ OwL tempoR lo hi M' v (markTempoL z l.length) ∧ Turn lo hi M M' := by
  first | (refine ctr_fn Try.func22 rfl Try.ntmps22 Try.results22 rfl rfl (by simp) ?_) | (refine ctr_fnC Try.func22 rfl Try.ntmps22 Try.results22 rfl (by simp) ?_)
  simp
  refine awCall_ctr (mark_TempoS (h.keeps (keeps_app _)) hb hz hz1) ?_
  rintro _ M' ⟨rfl, o, ht⟩
  simp
  exact ⟨o, ht.app⟩
end Go.Proofs.Ytgaiejaegimilaa
