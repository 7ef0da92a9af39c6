/- Score: a struct that holds a slice of records. No conditions. -/
import Derived.Test.YtgaiejaegimilaaHNote
namespace Go.Proofs.Ytgaiejaegimilaa
open Go.RowKit
set_option linter.unusedVariables false
set_option linter.unusedSimpArgs false
set_option maxRecDepth 100000
attribute [local simp] List.getElem?_cons_zero
attribute [local irreducible] awCond awCall awLoop awDraw ow retQ retC resQ Keeps
theorem sz_Score_over {M : Mem} {v : Value} {lo hi : Nat} {l : List Note} {z : Int} (h : RdL noteR lo hi M v l) (hz : 0 ≤ z) (hz1 : z ≤ 1048576) (hl : z < l.length) : Det Try.prog M.length 10 [.agg #[v], iv z] M (iv (-1)) M := by
  first | (refine det_fn Try.func10 rfl Try.ntmps10 Try.results10 rfl rfl rfl (by simp) ?_) | (refine det_fnC Try.func10 rfl Try.ntmps10 Try.results10 rfl rfl (by simp) ?_)
  simp
  refine awCall_det' (sz_NoteS_over (h.keeps (keeps_app _)) hz hz1 hl) (by simp) ?_
  simp [keeps_app]
theorem sz_Score {M : Mem} {v : Value} {lo hi : Nat} {l : List Note} {z : Int} (h : RdL noteR lo hi M v l) (hz : 0 ≤ z) (hz1 : z ≤ 1048576) (hl : l.length ≤ z) : Det Try.prog M.length 10 [.agg #[v], iv z] M (iv (z - l.length)) M := by
  first | (refine det_fn Try.func10 rfl Try.ntmps10 Try.results10 rfl rfl rfl (by simp) ?_) | (refine det_fnC Try.func10 rfl Try.ntmps10 Try.results10 rfl rfl (by simp) ?_)
  simp
  refine awCall_det' (sz_NoteS (h.keeps (keeps_app _)) hz hz1 hl) (by simp) ?_
  have h0 : ¬ z - l.length < 0 := by omega
  simp [keeps_app, h0]
theorem to_Score_d {M : Mem} {v : Value} {lo hi : Nat} {l : List Note} (h : RdL noteR lo hi M v l) (hl : l.length ≤ 1048576) : ∃ u N, Det Try.prog M.length 12 [.agg #[v]] M (.agg #[u]) (M ++ N) ∧ OwL noteR M.length (M ++ N).length (M ++ N) u l := by
  obtain ⟨A, n, c, rfl, hn, hS, _⟩ := h
  have hl' := hS.1
  refine ⟨.slice (some ⟨M.length + 3, 0, none⟩) n n, [.live ⟨[.slice A n c], true, true, 24, 1⟩, .live ⟨[.slice (some ⟨M.length + 3, 0, none⟩) n n], true, true, 30, 1⟩, .live ⟨[.slice (some ⟨M.length + 3, 0, none⟩) n n], true, true, 30, 1⟩, .live ⟨cellsL noteR l, true, true, 62, 7⟩], ?_, ?_⟩
  · refine Ctr.det ?_
    first | (refine ctr_fn Try.func12 rfl Try.ntmps12 Try.results12 rfl rfl (by simp) ?_) | (refine ctr_fnC Try.func12 rfl Try.ntmps12 Try.results12 rfl (by simp) ?_)
    simp
    refine awCall_det' ((toNoteS_d (hS.keeps (keeps_app _)) (by omega))) (by simp) ?_
    simp
  · refine ⟨_, n, n, rfl, by omega, ⟨hl', fun _ => ⟨M.length + 3, 0, rfl, by simp [rowEsz], fun j x hx => by simp [cellAt, hx]⟩⟩, fun a e _ => by injection e with e; subst e; simp, fun _ => ⟨_, _, ⟨cellsL noteR l, true, true, 62, 7⟩, rfl, by simp, rfl⟩⟩
theorem eq_Score {M : Mem} {v w : Value} {lo hi lo' hi' : Nat} {x y : List Note} (hx : OwL noteR lo hi M v x) (hy : RdL noteR lo' hi' M w y) : Det Try.prog M.length 14 [.agg #[v], .agg #[w]] M (.bool (decide (x = y))) M := by
  first | (refine det_fn Try.func14 rfl Try.ntmps14 Try.results14 rfl rfl rfl (by simp) ?_) | (refine det_fnC Try.func14 rfl Try.ntmps14 Try.results14 rfl rfl (by simp) ?_)
  simp
  refine awCall_det' (eq_NoteS (hx.keeps (keeps_app _)) (hy.keeps (keeps_app _))) (by simp) ?_
  by_cases e : x = y
  · simp [keeps_app, e]
  · simp [keeps_app, e]
theorem mark_Score {M : Mem} {b : Nat} {v : Value} {lo hi : Nat} {l : List Note} {z : Int} (h : OwL noteR lo hi M v l) (hb : b ≤ lo) (hz : 0 ≤ z) (hz1 : z ≤ 1152921504606846976) :
    Ctr Try.prog b 21 [.agg #[v], iv z] M fun r M' => r = iv (z + l.length * 7) ∧ OwL noteR lo hi M' v (markNoteL z l.length) ∧ Turn lo hi M M' := by
  first | (refine ctr_fn Try.func21 rfl Try.ntmps21 Try.results21 rfl rfl (by simp) ?_) | (refine ctr_fnC Try.func21 rfl Try.ntmps21 Try.results21 rfl (by simp) ?_)
  simp
  refine awCall_ctr (mark_NoteS (h.keeps (keeps_app _)) hb hz hz1) ?_
  rintro _ M' ⟨rfl, o, ht⟩
  simp
  exact ⟨o, ht.app⟩
theorem held_Score {M : Mem} {v : Value} {lo hi m : Nat} {z : Int} (h : OwL noteR lo hi M v (markNoteL z m)) (hz : 0 ≤ z) (hz1 : z ≤ 1152921504606846976) : Det Try.prog M.length 39 [.agg #[v], iv z] M (iv (z + m * 7)) M := by
  first | (refine det_fn Try.func39 rfl Try.ntmps39 Try.results39 rfl rfl rfl (by simp) ?_) | (refine det_fnC Try.func39 rfl Try.ntmps39 Try.results39 rfl rfl (by simp) ?_)
  simp
  refine awCall_det' (held_NoteS (h.keeps (keeps_app _)) hz hz1) (by simp) ?_
  have h0 : ¬ z + m * 7 < 0 := by omega
  simp [keeps_app, h0]
end Go.Proofs.Ytgaiejaegimilaa
