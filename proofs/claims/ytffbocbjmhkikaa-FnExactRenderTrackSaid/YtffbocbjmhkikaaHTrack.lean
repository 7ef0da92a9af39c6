/- Track: a struct that holds a slice of records. No conditions. -/
import Derived.Test.YtffbocbjmhkikaaHClip
namespace Go.Proofs.Ytffbocbjmhkikaa
open Go.RowKit
set_option linter.unusedVariables false
set_option linter.unusedSimpArgs false
set_option maxRecDepth 100000
attribute [local simp] List.getElem?_cons_zero
attribute [local irreducible] awCond awCall awLoop awDraw ow retQ retC resQ Keeps
theorem sz_Track_over {M : Mem} {v : Value} {lo hi : Nat} {l : List Clip} {z : Int} (h : RdL clipR lo hi M v l) (hz : 0 ≤ z) (hz1 : z ≤ 1048576) (hl : z < l.length) : Det Try.prog M.length 20 [.agg #[v], iv z] M (iv (-1)) M := by
  first | (refine det_fn Try.func20 rfl Try.ntmps20 Try.results20 rfl rfl rfl (by simp) ?_) | (refine det_fnC Try.func20 rfl Try.ntmps20 Try.results20 rfl rfl (by simp) ?_)
  simp
  refine awCall_det' (sz_ClipS_over (h.keeps (keeps_app _)) hz hz1 hl) (by simp) ?_
  simp [keeps_app]
theorem sz_Track {M : Mem} {v : Value} {lo hi : Nat} {l : List Clip} {z : Int} (h : RdL clipR lo hi M v l) (hz : 0 ≤ z) (hz1 : z ≤ 1048576) (hl : l.length ≤ z) : Det Try.prog M.length 20 [.agg #[v], iv z] M (iv (z - l.length)) M := by
  first | (refine det_fn Try.func20 rfl Try.ntmps20 Try.results20 rfl rfl rfl (by simp) ?_) | (refine det_fnC Try.func20 rfl Try.ntmps20 Try.results20 rfl rfl (by simp) ?_)
  simp
  refine awCall_det' (sz_ClipS (h.keeps (keeps_app _)) hz hz1 hl) (by simp) ?_
  have h0 : ¬ z - l.length < 0 := by omega
  simp [keeps_app, h0]
theorem to_Track_d {M : Mem} {v : Value} {lo hi : Nat} {l : List Clip} (h : RdL clipR lo hi M v l) (hl : l.length ≤ 1048576) : ∃ u N, Det Try.prog M.length 23 [.agg #[v]] M (.agg #[u]) (M ++ N) ∧ OwL clipR M.length (M ++ N).length (M ++ N) u l := by
  obtain ⟨A, n, c, rfl, hn, hS, _⟩ := h
  have hl' := hS.1
  refine ⟨.slice (some ⟨M.length + 3, 0, none⟩) n n, [.live ⟨[.slice A n c], true, true, 51, 1⟩, .live ⟨[.slice (some ⟨M.length + 3, 0, none⟩) n n], true, true, 59, 1⟩, .live ⟨[.slice (some ⟨M.length + 3, 0, none⟩) n n], true, true, 59, 1⟩, .live ⟨cellsL clipR l, true, true, 71, 5⟩], ?_, ?_⟩
  · refine Ctr.det ?_
    first | (refine ctr_fn Try.func23 rfl Try.ntmps23 Try.results23 rfl rfl (by simp) ?_) | (refine ctr_fnC Try.func23 rfl Try.ntmps23 Try.results23 rfl (by simp) ?_)
    simp
    refine awCall_det' ((toClipS_d (hS.keeps (keeps_app _)) (by omega))) (by simp) ?_
    simp
  · refine ⟨_, n, n, rfl, by omega, ⟨hl', fun _ => ⟨M.length + 3, 0, rfl, by simp [rowEsz], fun j x hx => by simp [cellAt, hx]⟩⟩, fun a e _ => by injection e with e; subst e; simp, fun _ => ⟨_, _, ⟨cellsL clipR l, true, true, 71, 5⟩, rfl, by simp, rfl⟩⟩
theorem eq_Track {M : Mem} {v w : Value} {lo hi lo' hi' : Nat} {x y : List Clip} (hx : OwL clipR lo hi M v x) (hy : RdL clipR lo' hi' M w y) : Det Try.prog M.length 27 [.agg #[v], .agg #[w]] M (.bool (decide (x = y))) M := by
  first | (refine det_fn Try.func27 rfl Try.ntmps27 Try.results27 rfl rfl rfl (by simp) ?_) | (refine det_fnC Try.func27 rfl Try.ntmps27 Try.results27 rfl rfl (by simp) ?_)
  simp
  refine awCall_det' (eq_ClipS (hx.keeps (keeps_app _)) (hy.keeps (keeps_app _))) (by simp) ?_
  by_cases e : x = y
  · simp [keeps_app, e]
  · simp [keeps_app, e]
theorem mark_Track {M : Mem} {b : Nat} {v : Value} {lo hi : Nat} {l : List Clip} {z : Int} (h : OwL clipR lo hi M v l) (hb : b ≤ lo) (hz : 0 ≤ z) (hz1 : z ≤ 1152921504606846976) :
    Ctr Try.prog b 29 [.agg #[v], iv z] M fun r M' => r = iv (z + l.length * 5) ∧ OwL clipR lo hi M' v (markClipL z l.length) ∧ Turn lo hi M M' := by
  first | (refine ctr_fn Try.func29 rfl Try.ntmps29 Try.results29 rfl rfl (by simp) ?_) | (refine ctr_fnC Try.func29 rfl Try.ntmps29 Try.results29 rfl (by simp) ?_)
  simp
  refine awCall_ctr (mark_ClipS (h.keeps (keeps_app _)) hb hz hz1) ?_
  rintro _ M' ⟨rfl, o, ht⟩
  simp
  exact ⟨o, ht.app⟩
theorem held_Track {M : Mem} {v : Value} {lo hi m : Nat} {z : Int} (h : OwL clipR lo hi M v (markClipL z m)) (hz : 0 ≤ z) (hz1 : z ≤ 1152921504606846976) : Det Try.prog M.length 35 [.agg #[v], iv z] M (iv (z + m * 5)) M := by
  first | (refine det_fn Try.func35 rfl Try.ntmps35 Try.results35 rfl rfl rfl (by simp) ?_) | (refine det_fnC Try.func35 rfl Try.ntmps35 Try.results35 rfl rfl (by simp) ?_)
  simp
  refine awCall_det' (held_ClipS (h.keeps (keeps_app _)) hz hz1) (by simp) ?_
  have h0 : ¬ z + m * 5 < 0 := by omega
  simp [keeps_app, h0]
end Go.Proofs.Ytffbocbjmhkikaa
