/- Parts of the proof, together: Tracks: a clip is added, both packages. For every input: the program's AddClip returns what the reference's returns, leaves its arguments alone, and hands back memory of its own. No conditions. -/
import Derived.Test.YtimijeeihicohaaZzAc10
namespace Go.Proofs.Ytimijeeihicohaa
open Go.RowKit
set_option linter.unusedVariables false
set_option linter.unusedSimpArgs false
set_option maxRecDepth 100000
attribute [local simp] List.getElem?_cons_zero
attribute [local irreducible] awCond awCall awLoop awDraw ow retQ retC resQ Keeps
theorem Ctr.compact3 {P : Program} {b : Nat} {f : FuncId} {args : List Value} {M : Mem} {n : Nat} {row : Row} {u1 u2 : Value} (hu1 : plainV u1 = true) (hu2 : plainV u2 = true) (hp : row.cells.all plainV = true) (h : Ctr P b f args M fun v' M' => ∃ v, v' = .tuple #[.agg #[v], u1, u2] ∧ NewRow M v M' n row ∧ Keeps M M') :
    Det P b f args M (.tuple #[.agg #[.slice (some ⟨M.length, 0, none⟩) n n], u1, u2]) (M ++ [.live row]) :=
  ⟨h.fn, fun μ w cs hl hS => (h.run μ w cs hl hS).mono fun e w' ⟨v', M', c, μ', ⟨v, e1, ⟨q, m, t, h1, h2, h3, h4⟩, hk⟩, he, hv, hS', hst⟩ => by
    subst h1
    subst e1
    obtain ⟨ys, rfl, hl2⟩ := hv.tup_inv
    obtain ⟨g1, g2⟩ := compact_sim hS hS' hst hk h2 h3 h4 hp
    obtain ⟨y0, hy0, r0⟩ := hl2.at_ (i := 0) (x := .agg #[.slice (some ⟨q, 0, none⟩) n m]) rfl
    obtain ⟨y1, hy1, r1⟩ := hl2.at_ (i := 1) (x := u1) rfl
    obtain ⟨y2, hy2, r2⟩ := hl2.at_ (i := 2) (x := u2) rfl
    obtain ⟨zs, rfl, hl3⟩ := r0.agg_inv
    obtain ⟨z0, hz0, q0⟩ := hl3.at_ (i := 0) (x := .slice (some ⟨q, 0, none⟩) n m) rfl
    have r1 := r1.of_plain hu1
    have r2 := r2.of_plain hu2
    subst r1
    subst r2
    have e3 : ys.toList = [.agg zs, y1, y2] := by
      have hl := hl2.1
      match hq : ys.toList, hl with
      | [a, b, c], _ => rw [hq] at hy0 hy1 hy2; simp at hy0 hy1 hy2; rw [hy0, hy1, hy2]
    have e4 : zs.toList = [z0] := by
      have hl := hl3.1
      match hq : zs.toList, hl with
      | [a], _ => rw [hq] at hz0; simp at hz0; rw [hz0]
    have e5 : ys = [.agg zs, y1, y2].toArray := by rw [← e3]
    have e6 : zs = [z0].toArray := by rw [← e4]
    refine ⟨_, _, he, ?_, g1, g2⟩
    rw [e5, e6]
    exact VRel.mk_tup (xs := [.agg #[.slice (some ⟨M.length, 0, none⟩) n n], y1, y2]) (.cons (VRel.mk_agg (xs := [.slice (some ⟨M.length, 0, none⟩) n n]) (.cons (compact_val h3 q0) .nil)) (.cons (.plain hu1) (.cons (.plain hu2) .nil)))⟩
def addV (l : List Clip) (g : Clip) : List Clip × Int × Int := if okC l = false ∨ clipB g = false then ([], 0, 1) else if l.length = 12 then ([], 0, 5) else (insL l g, (putK l g.at_ : Int), 0)
def AddR (l : List Clip) (g : Clip) (M : Mem) (r : Value) (M' : Mem) : Prop := ∃ v0, r = .tuple #[.agg #[v0], iv (addV l g).2.1, iv (addV l g).2.2] ∧ (((addV l g).1 = [] ∧ v0 = .slice none 0 0) ∨ (0 < (addV l g).1.length ∧ Acc clipR 34 M.length M' v0 (addV l g).1)) ∧ Keeps M M'
theorem AddR.no {l : List Clip} {g : Clip} {M : Mem} {L : List Slot} {z1 z2 : Int} (h : addV l g = ([], z1, z2)) : AddR l g M (.tuple #[.agg #[.slice none 0 0], iv z1, iv z2]) (M ++ L) := ⟨_, by rw [h], .inl ⟨by rw [h], rfl⟩, keeps_app _⟩
set_option maxHeartbeats 2000000 in
theorem AddClip_i {M : Mem} {B : Nat} {v : Value} {l : List Clip} (g : Clip) (hA : Acc clipR 34 B M v l) (hn : l.length ≤ 1048576) : Ctr Try.prog M.length 11 [.agg #[v], g.v] M (AddR l g M) := by
  obtain ⟨A, n, c, rfl, hl, h, -⟩ := hA.sl
  first | (refine ctr_fn Try.func11 rfl Try.ntmps11 Try.results11 rfl rfl (by simp) ?_) | (refine ctr_fnC Try.func11 rfl Try.ntmps11 Try.results11 rfl (by simp) ?_)
  simp
  refine awCall_det' (isTrack_a (c := c) (h.app _) (by omega)) (by simp) ?_
  cases e1 : okC l
  · have hv : addV l g = ([], 0, 1) := by unfold addV; rw [if_pos (.inl e1)]
    simp
    exact .no hv
  simp
  refine awCall_det' (isClip_a g) (by simp) ?_
  cases e2 : clipB g
  · have hv : addV l g = ([], 0, 1) := by unfold addV; rw [if_pos (.inr e2)]
    simp
    exact .no hv
  have hn12 := okC_len e1
  have hc1 : ¬ (okC l = false ∨ clipB g = false) := by rw [e1, e2]; simp
  by_cases e12 : n = 12
  · have hv : addV l g = ([], 0, 5) := by unfold addV; rw [if_neg hc1, if_pos (by omega)]
    simp (disch := omega) [e12]
    exact .no hv
  have e12i : ¬ (n : Int) = 12 := by omega
  have hv : addV l g = (insL l g, (putK l g.at_ : Int), 0) := by unfold addV; rw [if_neg hc1, if_neg (by omega)]
  simp (disch := omega) [e12i]
  obtain ⟨M3, hM3⟩ : ∃ M3 : Mem, M3 = M ++ [Slot.live ⟨[.slice A n c], true, true, 30, 1⟩, Slot.live ⟨[iv g.src, iv g.fr, iv g.len, iv g.at_, iv g.gain], true, true, 34, 5⟩, Slot.live ⟨[.slice none 0 0], true, true, 30, 1⟩] := ⟨_, rfl⟩
  have kb : Keeps M M3 := by rw [hM3]; exact keeps_app _
  have qb : M3.length = M.length + 3 := by rw [hM3]; simp
  have x2 : M3[M.length + 2]? = some (Slot.live ⟨[.slice none 0 0], true, true, 30, 1⟩) := by rw [hM3]; simp
  rw [← hM3]
  clear hM3
  refine awCall_ctr ((put_i (c := c) g (h.keeps kb) (by omega)).weaken (by omega)) ?_
  rintro _ M8 ⟨v0, rfl, hI, k8⟩
  have l8 := k8.len
  obtain ⟨A3, n3, c3, rfl, hn3, hI2⟩ := hI
  have p8 : (M8 ++ [Slot.live ⟨[.slice A3 n3 c3], true, true, 30, 1⟩])[M.length + 2]? = some (Slot.live ⟨[.slice none 0 0], true, true, 30, 1⟩) := (keeps_app _).get (k8.get x2)
  have hput2 : putCells M.length (M8 ++ [Slot.live ⟨[.slice A3 n3 c3], true, true, 30, 1⟩]) (M.length + 2) 0 [.slice A3 n3 c3] = some ((M8 ++ [Slot.live ⟨[.slice A3 n3 c3], true, true, 30, 1⟩]).set (M.length + 2) (Slot.live ⟨[.slice A3 n3 c3], true, true, 30, 1⟩)) := put_whole p8 (by omega) rfl rfl
  simp (disch := omega) [hput2]
  have hl9 : M.length + 2 < M8.length := by omega
  have hcs : cellsAt (M8.set (M.length + 2) (Slot.live ⟨[.slice A3 n3 c3], true, true, 30, 1⟩) ++ [Slot.live ⟨[.slice A3 n3 c3], true, true, 30, 1⟩]) (M.length + 2) 0 1 = some [.slice A3 n3 c3] := cellsAt_app (by simp [cellsAt, hl9]) _
  rw [hcs]
  simp
  have hI3 : Acc clipR 34 M3.length M8 (.slice A3 n3 c3) (insL l g) := ⟨_, _, _, rfl, hn3, hI2⟩
  exact ⟨_, by rw [hv], .inr ⟨by rw [hv, insL_len]; omega, by rw [hv]; exact ((hI3.set_ne (by omega)).keeps (keeps_app _)).low (by omega)⟩, (keeps_set (kb.trans k8) (by omega)).trans (keeps_app _)⟩
set_option maxHeartbeats 2000000 in
theorem AddClip_s {M : Mem} {B : Nat} {v : Value} {l : List Clip} (g : Clip) (hA : Acc clipR 34 B M v l) (hn : l.length ≤ 1048576) : Ctr Try.prog M.length 8 [.agg #[v], g.v] M (AddR l g M) := by
  have hA0 := hA
  obtain ⟨A, n, c, rfl, hl, h, -⟩ := hA.sl
  first | (refine ctr_fn Try.func8 rfl Try.ntmps8 Try.results8 rfl rfl (by simp) ?_) | (refine ctr_fnC Try.func8 rfl Try.ntmps8 Try.results8 rfl (by simp) ?_)
  simp
  refine awCall_det' (l23Ok_a (A := A) (n := n) (c := c) (by simp) (h.app _) (by omega)) (by simp) ?_
  cases e1 : okC l
  · have hv : addV l g = ([], 0, 1) := by unfold addV; rw [if_pos (.inl e1)]
    simp
    exact .no hv
  simp
  refine awCall_det' (l23Clip_a (g := g) (fun j y hy => by simp [cellAt]; simpa [Clip.row] using hy)) (by simp) ?_
  cases e2 : clipB g
  · have hv : addV l g = ([], 0, 1) := by unfold addV; rw [if_pos (.inr e2)]
    simp
    exact .no hv
  have hn12 := okC_len e1
  have hc1 : ¬ (okC l = false ∨ clipB g = false) := by rw [e1, e2]; simp
  by_cases e12 : n = 12
  · have hv : addV l g = ([], 0, 5) := by unfold addV; rw [if_neg hc1, if_pos (by omega)]
    simp (disch := omega) [e12]
    exact .no hv
  have e12i : ¬ (12 : Int) ≤ n := by omega
  have hv : addV l g = (insL l g, (putK l g.at_ : Int), 0) := by unfold addV; rw [if_neg hc1, if_neg (by omega)]
  simp (disch := omega) [e12i]
  obtain ⟨M3, hM3⟩ : ∃ M3 : Mem, M3 = M ++ [Slot.live ⟨[.slice A n c], true, true, 30, 1⟩, Slot.live ⟨[iv g.src, iv g.fr, iv g.len, iv g.at_, iv g.gain], true, true, 34, 5⟩, Slot.live ⟨[.slice none 0 0], true, true, 30, 1⟩] := ⟨_, rfl⟩
  have kb : Keeps M M3 := by rw [hM3]; exact keeps_app _
  have qb : M3.length = M.length + 3 := by rw [hM3]; simp
  have x2 : M3[M.length + 2]? = some (Slot.live ⟨[.slice none 0 0], true, true, 30, 1⟩) := by rw [hM3]; simp
  rw [← hM3]
  clear hM3
  refine awCall_ctr ((l23Put_s g (hA0.keeps kb) (by omega) (okC_up e1)).weaken (by omega)) ?_
  rintro _ M8 ⟨v0, rfl, hI, k8⟩
  have l8 := k8.len
  obtain ⟨A3, n3, c3, rfl, hn3, hI2⟩ := hI
  have p8 := k8.get x2
  have hput2 : putCells M.length M8 (M.length + 2) 0 [.slice A3 n3 c3] = some (M8.set (M.length + 2) (Slot.live ⟨[.slice A3 n3 c3], true, true, 30, 1⟩)) := put_whole p8 (by omega) rfl rfl
  have hfill : Instr.fill (fun x => [(0, 1)][x]?) #[Value.slice none 0 0] [(0, .slice A3 n3 c3)] = some #[.slice A3 n3 c3] := by rfl
  simp (disch := omega) [hfill, hput2]
  have hl9 : M.length + 2 < M8.length := by omega
  have hcs : cellsAt (M8.set (M.length + 2) (Slot.live ⟨[.slice A3 n3 c3], true, true, 30, 1⟩)) (M.length + 2) 0 1 = some [.slice A3 n3 c3] := by simp [cellsAt, hl9]
  rw [hcs]
  simp
  have hI3 : Acc clipR 34 M3.length M8 (.slice A3 n3 c3) (insL l g) := ⟨_, _, _, rfl, hn3, hI2⟩
  exact ⟨_, by rw [hv], .inr ⟨by rw [hv, insL_len]; omega, by rw [hv]; exact (hI3.set_ne (by omega)).low (by omega)⟩, keeps_set (kb.trans k8) (by omega)⟩
theorem putL_one {B : List Slot} {u x : Value} {e : TypeId} (h : oneV u = true) : putL (B ++ [Slot.live ⟨[x], true, true, e, 1⟩]) B.length 0 [u] = some (B ++ [Slot.live ⟨[u], true, true, e, 1⟩]) := by
  induction B with
  | nil => simp [h, splice]
  | cons b B ih =>
    rw [List.cons_append, List.length_cons, putL_succ, ih]
    rfl
theorem putL_two {A B : List Slot} {u x : Value} {e : TypeId} (h : oneV u = true) : putL (A ++ (B ++ [Slot.live ⟨[x], true, true, e, 1⟩])) (A.length + B.length) 0 [u] = some (A ++ (B ++ [Slot.live ⟨[u], true, true, e, 1⟩])) := by
  rw [← List.append_assoc, ← List.length_append, putL_one h, List.append_assoc]
theorem box_one {M B : Mem} {u : Value} {e : TypeId} : cellsAt (M ++ (B ++ [Slot.live ⟨[u], true, true, e, 1⟩])) (M.length + B.length) 0 1 = some [u] := by
  rw [← List.append_assoc, ← List.length_append]
  simp
theorem box_two {M A B : Mem} {u : Value} {e : TypeId} : cellsAt (M ++ (A ++ (B ++ [Slot.live ⟨[u], true, true, e, 1⟩]))) (M.length + (A.length + B.length)) 0 1 = some [u] := by
  rw [← List.append_assoc A, ← List.length_append, box_one]
theorem addV_len {l : List Clip} {g : Clip} (hl : l.length ≤ 1048576) : (addV l g).1.length ≤ 1048577 := by
  unfold addV
  split
  · exact Nat.zero_le _
  split
  · exact Nat.zero_le _
  · rw [insL_len]; omega
/-- The same, exact. -/
theorem AddR.exact {f : FuncId} {M : Mem} {args : List Value} {l : List Clip} {g : Clip} (h : Ctr Try.prog M.length f args M (AddR l g M)) : ∃ u N, Det Try.prog M.length f args M (.tuple #[.agg #[u], iv (addV l g).2.1, iv (addV l g).2.2]) (M ++ N) ∧ Acc clipR 34 M.length (M ++ N) u (addV l g).1 := by
  by_cases hl : (addV l g).1.length = 0
  · have hn := List.eq_nil_of_length_eq_zero hl
    refine ⟨.slice none 0 0, [], ?_, by rw [hn]; exact .nil⟩
    rw [List.append_nil]
    refine Ctr.pure (h.mono fun r M' ⟨v0, e, ho, hk⟩ => ⟨?_, hk⟩) (by rfl)
    rcases ho with ⟨-, rfl⟩ | ⟨ho, -⟩
    · exact e
    · omega
  · refine ⟨.slice (some ⟨M.length, 0, none⟩) (addV l g).1.length (addV l g).1.length, [.live ⟨cellsL clipR (addV l g).1, true, false, 34, 5⟩], ?_, ⟨_, _, _, rfl, rfl, .inr ⟨M.length, false, rfl, Nat.le_refl _, getElem?_snoc_eq⟩⟩⟩
    refine Ctr.compact3 rfl rfl (clip_plain _) (h.mono fun r M' ⟨v0, e, ho, hk⟩ => ⟨v0, e, ?_, hk⟩)
    rcases ho with ⟨ho, -⟩ | ⟨-, A, n, c, rfl, hn, ho⟩
    · rw [ho] at hl; exact absurd rfl hl
    · rcases ho with ⟨-, h0, -⟩ | ⟨id, t, rfl, hid, hr⟩
      · omega
      · exact ⟨id, c, t, by rw [hn], hid, hr, fun h => by cases h⟩
end Go.Proofs.Ytimijeeihicohaa

namespace Go.Proofs.Ytimijeeihicohaa
open Go.ChangeShapes Go.WideShapes Go.ChangeAt Go.RowKit
open Go.RowKit
set_option linter.unusedVariables false
set_option linter.unusedSimpArgs false
set_option maxRecDepth 100000
attribute [local simp] List.getElem?_cons_zero
attribute [local irreducible] awCond awCall awLoop awDraw ow retQ retC resQ Keeps
set_option maxHeartbeats 8000000 in
theorem lawAddClip_a {M : Mem} {vT : Value} {xT : List Clip} (g : Clip) (raT : RdL clipR 0 M.length M vT xT) : Det Try.prog M.length 3 [.agg #[vT], g.v] M (.bool true) M := by
  first | (refine det_fn Try.func3 rfl Try.ntmps3 Try.results3 rfl rfl rfl (by simp) ?_) | (refine det_fnC Try.func3 rfl Try.ntmps3 Try.results3 rfl rfl (by simp) ?_)
  simp
  obtain ⟨M0, hM0⟩ : ∃ M0 : Mem, M0 = M ++ [Slot.live ⟨[vT], true, true, 24, 1⟩, Slot.live ⟨[iv g.src, iv g.fr, iv g.len, iv g.at_, iv g.gain], true, true, 26, 5⟩] := ⟨_, rfl⟩
  have kb : Keeps M M0 := by rw [hM0]; exact keeps_app _
  have qb : M0.length = M.length + 2 := by rw [hM0]; simp
  have baT : cellsAt M0 M.length 0 1 = some [vT] := by rw [hM0]; simp
  have baC : cellsAt M0 (M.length + 1) 0 5 = some [iv g.src, iv g.fr, iv g.len, iv g.at_, iv g.gain] := by rw [hM0]; simp
  rw [← hM0]
  clear hM0
  replace raT := raT.keeps kb
  by_cases g2 : (1048576 : Int) < xT.length
  · refine awCall_det' (sz_Track_over raT (z := 1048576) (by omega) (by omega) (by omega)) (by omega) ?_
    simp; exact kb
  refine awCall_det' (sz_Track raT (z := 1048576) (by omega) (by omega) (by omega)) (by omega) ?_
  have g3 : ¬ (1048576 : Int) - xT.length < 0 := by omega
  have eT : xT.length ≤ 1048576 := by omega
  simp (disch := omega) [g3, baT]
  clear g2 g3
  refine awDraw_M 10 [[],[0],[],[2,1,0],[1,0,3,2],[4,1,0,3,2],[5,4,1,0,3,2],[5,4,1,0,3,2],[5,4,1,0,3,2],[],[9,6,5,4,1,0,3,2],[7,5,4,1,0,3,2,10,9,6],[8,5,4,1,0,3,2,11,7,10,9,6]] [7,8] (by kernel_rfl) (by decide +kernel) (by decide +kernel) ?_
  try simp (disch := omega) [wrap_in, dec_neg, baT, baC]
  obtain ⟨uA, NA, dA, rA, sA⟩ := to_Track_e raT eT
  refine awCall_det' (d := true) dA (by omega) ?_
  try simp (disch := omega) [wrap_in, dec_neg, baT, baC, cellsAt_app baT, cellsAt_app baC]
  refine awCall_det' (d := true) (toClip_a g) (by first | omega | (simp <;> omega) | simp) ?_
  try simp (disch := omega) [wrap_in, dec_neg, baT, baC, cellsAt_app baT, cellsAt_app baC]
  obtain ⟨uW, NW, dW, aW⟩ := AddR.exact (AddClip_s g sA eT)
  have oneW : oneV uW = true := by obtain ⟨_, _, _, e, _⟩ := aW; rw [e]; rfl
  have oW := (aW.fresh (by have := addV_len (g := g) eT; omega) (keeps_app _)).ow.1
  try simp only [List.append_assoc] at dW oW
  refine awCall_det' (d := true) dW (by first | omega | (simp <;> omega) | simp) ?_
  try simp (disch := omega) [wrap_in, dec_neg, baT, baC, cellsAt_app baT, cellsAt_app baC]
  rw [putL_two oneW]
  have bW : cellsAt (M0 ++ (NA ++ (NW ++ [Slot.live ⟨[uW], true, true, 30, 1⟩]))) (M0.length + (NA.length + NW.length)) 0 1 = some [uW] := by exact box_two
  have kk : Keeps (M0 ++ (NA ++ NW)) (M0 ++ (NA ++ (NW ++ [Slot.live ⟨[uW], true, true, 30, 1⟩]))) := by simpa only [List.append_assoc] using keeps_app (M := M0 ++ (NA ++ NW)) [Slot.live ⟨[uW], true, true, 30, 1⟩]
  replace oW := oW.keeps kk
  have k0 : Keeps M0 (M0 ++ (NA ++ (NW ++ [Slot.live ⟨[uW], true, true, 30, 1⟩]))) := keeps_app _
  have lWa : M0.length ≤ (M0 ++ NA).length := by first | exact Nat.le_refl _ | simp
  have lWb : (M0 ++ (NA ++ NW)).length ≤ (M0 ++ (NA ++ (NW ++ [Slot.live ⟨[uW], true, true, 30, 1⟩]))).length := kk.len
  have lWc : M0.length ≤ (M0 ++ (NA ++ (NW ++ [Slot.live ⟨[uW], true, true, 30, 1⟩]))).length := k0.len
  have lWd : (M0 ++ NA).length ≤ (M0 ++ (NA ++ NW)).length := by simp
  have lWp : (M0.length + (NA.length + NW.length)) < (M0 ++ (NA ++ (NW ++ [Slot.live ⟨[uW], true, true, 30, 1⟩]))).length := by simp <;> omega
  have lWq : M0.length ≤ (M0.length + (NA.length + NW.length)) := by omega
  have lWr : (M0 ++ (NA ++ NW)).length ≤ (M0.length + (NA.length + NW.length)) := by simp
  replace raT := raT.keeps k0
  replace baT := cellsAt_keeps k0 baT
  replace baC := cellsAt_keeps k0 baC
  replace kb := kb.trans k0
  clear kk k0 dW aW dA rA sA
  try simp (disch := omega) [wrap_in, dec_neg, baT, baC, bW]
  generalize (M0 ++ (NA ++ (NW ++ [Slot.live ⟨[uW], true, true, 30, 1⟩]))) = M1 at *
  generalize (M0 ++ (NA ++ NW)).length = eW at *
  generalize (M0 ++ NA).length = fW at *
  generalize (M0.length + (NA.length + NW.length)) = pW at *
  try simp (disch := omega) [wrap_in, dec_neg, baT, baC, bW, oneW]
  obtain ⟨u0, N2, d2, o0, s0⟩ := to_Track_e raT eT
  have one0 := o0.one
  refine awCall_det' d2 (by omega) ?_
  obtain ⟨M2, hM2, k2⟩ : ∃ M' : Mem, M' = M1 ++ N2 ∧ Keeps M1 M' := ⟨_, rfl, keeps_app _⟩
  rw [← hM2] at o0 s0
  rw [← hM2]
  have n2 := k2.len
  replace raT := raT.keeps k2
  replace baT := cellsAt_keeps k2 baT
  replace baC := cellsAt_keeps k2 baC
  replace kb := kb.trans k2
  replace bW := cellsAt_keeps k2 bW
  replace oW := oW.keeps k2
  clear k2 d2 hM2
  try simp (disch := omega) [wrap_in, dec_neg, baT, baC, bW, oneW, one0]
  obtain ⟨M3, hM3⟩ : ∃ M' : Mem, M' = M2 ++ [Slot.live ⟨[u0], true, true, 30, 1⟩] := ⟨_, rfl⟩
  have b0 : cellsAt M3 M2.length 0 1 = some [u0] := by rw [hM3]; simp
  have k3 : Keeps M2 M3 := by rw [hM3]; exact keeps_app _
  have n3 : M3.length = M2.length + 1 := by rw [hM3]; simp
  rw [← hM3]
  replace raT := raT.keeps k3
  replace baT := cellsAt_keeps k3 baT
  replace baC := cellsAt_keeps k3 baC
  replace kb := kb.trans k3
  replace bW := cellsAt_keeps k3 bW
  replace oW := oW.keeps k3
  replace o0 := o0.keeps k3
  replace s0 := s0.keeps k3
  clear k3 hM3
  try simp (disch := omega) [wrap_in, dec_neg, baT, baC, bW, b0, oneW, one0]
  refine awDraw_M 9 [[],[],[1],[0,2,1],[3,0,2,1],[4,3,0,2,1],[4,3,0,2,1],[4,3,0,2,1],[],[8,5,4,3,0,2,1],[6,4,3,0,2,1,9,8,5],[7,4,3,0,2,1,10,6,9,8,5]] [6,7] (by kernel_rfl) (by decide +kernel) (by decide +kernel) ?_
  try simp (disch := omega) [wrap_in, dec_neg, baT, baC, bW, b0, oneW, one0]
  refine awCall_det' (d := true) (toClip_a g) (by first | omega | (simp <;> omega) | simp) ?_
  try simp (disch := omega) [wrap_in, dec_neg, baT, baC, bW, b0, cellsAt_app baT, cellsAt_app baC, cellsAt_app bW, cellsAt_app b0, oneW, one0]
  obtain ⟨uG, NW, dW, aW⟩ := AddR.exact (AddClip_i g s0 eT)
  have oneG : oneV uG = true := by obtain ⟨_, _, _, e, _⟩ := aW; rw [e]; rfl
  have oG := (aW.fresh (by have := addV_len (g := g) eT; omega) (keeps_app _)).ow.1
  refine awCall_det' (d := true) dW (by first | omega | (simp <;> omega) | simp) ?_
  try simp (disch := omega) [wrap_in, dec_neg, baT, baC, bW, b0, cellsAt_app baT, cellsAt_app baC, cellsAt_app bW, cellsAt_app b0, oneW, one0]
  rw [putL_one oneG]
  have bG : cellsAt (M3 ++ (NW ++ [Slot.live ⟨[uG], true, true, 30, 1⟩])) (M3.length + NW.length) 0 1 = some [uG] := by exact box_one
  have kk : Keeps (M3 ++ NW) (M3 ++ (NW ++ [Slot.live ⟨[uG], true, true, 30, 1⟩])) := by simpa only [List.append_assoc] using keeps_app (M := M3 ++ NW) [Slot.live ⟨[uG], true, true, 30, 1⟩]
  replace oG := oG.keeps kk
  have k0 : Keeps M3 (M3 ++ (NW ++ [Slot.live ⟨[uG], true, true, 30, 1⟩])) := keeps_app _
  have lGa : M3.length ≤ M3.length := by first | exact Nat.le_refl _ | simp
  have lGb : (M3 ++ NW).length ≤ (M3 ++ (NW ++ [Slot.live ⟨[uG], true, true, 30, 1⟩])).length := kk.len
  have lGc : M3.length ≤ (M3 ++ (NW ++ [Slot.live ⟨[uG], true, true, 30, 1⟩])).length := k0.len
  have lGd : M3.length ≤ (M3 ++ NW).length := by simp
  have lGp : (M3.length + NW.length) < (M3 ++ (NW ++ [Slot.live ⟨[uG], true, true, 30, 1⟩])).length := by simp <;> omega
  have lGq : M3.length ≤ (M3.length + NW.length) := by omega
  have lGr : (M3 ++ NW).length ≤ (M3.length + NW.length) := by simp
  replace raT := raT.keeps k0
  replace baT := cellsAt_keeps k0 baT
  replace baC := cellsAt_keeps k0 baC
  replace kb := kb.trans k0
  replace bW := cellsAt_keeps k0 bW
  replace oW := oW.keeps k0
  replace o0 := o0.keeps k0
  replace b0 := cellsAt_keeps k0 b0
  clear kk k0 dW aW
  try simp (disch := omega) [wrap_in, dec_neg, baT, baC, bW, b0, bG, oneW, one0]
  generalize (M3 ++ (NW ++ [Slot.live ⟨[uG], true, true, 30, 1⟩])) = M4 at *
  generalize (M3 ++ NW).length = eG at *
  generalize (M3.length + NW.length) = pG at *
  refine awCall_det' (eq_Track oG oW.rd) (by omega) ?_
  try simp (disch := omega) [wrap_in, dec_neg, baT, baC, bW, b0, bG, oneW, one0, oneG]
  refine awDraw_D 3 [[],[],[1],[0,2,1],[3,0,2,1]] (by kernel_rfl) (by decide +kernel) ?_
  try simp (disch := omega) [wrap_in, dec_neg, baT, baC, bW, b0, bG, oneW, one0, oneG]
  obtain ⟨v5, N5, d5, r5⟩ := to_Track_d raT eT
  refine awCall_det' (d := true) d5 (by omega) ?_
  try simp (disch := omega) [wrap_in, dec_neg, baT, baC, bW, b0, bG, cellsAt_app baT, cellsAt_app baC, cellsAt_app bW, cellsAt_app b0, cellsAt_app bG, oneW, one0, oneG]
  refine awCall_det' (eq_Track (o0.keeps (keeps_app N5)) r5.rd) (by first | omega | (simp <;> omega) | simp) ?_
  simp
  have k5 : Keeps M4 (M4 ++ N5) := keeps_app _
  have n5 := k5.len
  replace raT := raT.keeps k5
  replace baT := cellsAt_keeps k5 baT
  replace baC := cellsAt_keeps k5 baC
  replace kb := kb.trans k5
  replace bW := cellsAt_keeps k5 bW
  replace oW := oW.keeps k5
  replace o0 := o0.keeps k5
  replace b0 := cellsAt_keeps k5 b0
  replace bG := cellsAt_keeps k5 bG
  replace oG := oG.keeps k5
  clear d5 r5 k5
  generalize M4 ++ N5 = M5 at *
  try simp (disch := omega) [wrap_in, dec_neg, baT, baC, bW, b0, bG, oneW, one0, oneG]
  -- marks
  refine awCall_ctr ((mark_Track (b := M.length) o0 (by omega) (by omega) (by omega)).weaken (Nat.le_refl _)) ?_
  rintro _ M6 ⟨rfl, -, t6⟩
  clear o0 b0
  have n6 := t6.1
  replace raT := raT.turn t6 (.inl (by omega))
  replace baT := cellsAt_turn2 t6 (by omega) baT
  replace baC := cellsAt_turn2 t6 (by omega) baC
  replace kb := t6.keeps kb (by omega)
  replace bW := cellsAt_turn2 t6 (by omega) bW
  replace oW := oW.turn t6 (.inl (by omega))
  replace bG := cellsAt_turn2 t6 (by omega) bG
  replace oG := oG.turn t6 (.inr (by omega))
  clear t6
  have hneg : ¬ (1 + (xT.length : Int) * 5 < 0) := by omega
  try simp (disch := omega) [wrap_in, dec_neg, baT, baC, bW, bG, oneW, one0, oneG, hneg]
  refine awCall_det' (eq_Track oG oW.rd) (by omega) ?_
  try simp (disch := omega) [wrap_in, dec_neg, baT, baC, bW, bG, oneW, one0, oneG]
  refine awCall_ctr ((mark_Track (b := M.length) oG (by omega) (by omega) (by omega)).weaken (Nat.le_refl _)) ?_
  clear oG
  rintro _ M7 ⟨rfl, oG, t7⟩
  have n7 := t7.1
  replace raT := raT.turn t7 (.inl (by omega))
  replace baT := cellsAt_turn2 t7 (by omega) baT
  replace baC := cellsAt_turn2 t7 (by omega) baC
  replace kb := t7.keeps kb (by omega)
  replace bW := cellsAt_turn2 t7 (by omega) bW
  replace oW := oW.turn t7 (.inl (by omega))
  replace bG := cellsAt_turn2 t7 (by omega) bG
  clear t7
  have hlen := addV_len (g := g) eT
  have hneg2 : ¬ (1 + ((addV xT g).1.length : Int) * 5 < 0) := by omega
  try simp (disch := omega) [wrap_in, dec_neg, baT, baC, bW, bG, oneW, one0, oneG]
  refine awCall_det' (held_Track oG (by omega) (by omega)) (by omega) ?_
  try simp (disch := omega) [wrap_in, dec_neg, baT, baC, bW, bG, oneW, one0, oneG, hneg2]
  refine awDraw_M 10 [[],[0],[],[2,1,0],[1,0,3,2],[4,1,0,3,2],[5,4,1,0,3,2],[5,4,1,0,3,2],[5,4,1,0,3,2],[],[9,6,5,4,1,0,3,2],[7,5,4,1,0,3,2,10,9,6],[8,5,4,1,0,3,2,11,7,10,9,6]] [7,8] (by kernel_rfl) (by decide +kernel) (by decide +kernel) ?_
  try simp (disch := omega) [wrap_in, dec_neg, baT, baC, bW, bG, oneW, one0, oneG]
  obtain ⟨uA, NA, dA, rA, sA⟩ := to_Track_e raT eT
  refine awCall_det' (d := true) dA (by omega) ?_
  try simp (disch := omega) [wrap_in, dec_neg, baT, baC, bW, bG, cellsAt_app baT, cellsAt_app baC, cellsAt_app bW, cellsAt_app bG, oneW, one0, oneG]
  refine awCall_det' (d := true) (toClip_a g) (by first | omega | (simp <;> omega) | simp) ?_
  try simp (disch := omega) [wrap_in, dec_neg, baT, baC, bW, bG, cellsAt_app baT, cellsAt_app baC, cellsAt_app bW, cellsAt_app bG, oneW, one0, oneG]
  obtain ⟨uH, NW, dW, aW⟩ := AddR.exact (AddClip_i g sA eT)
  have oneH : oneV uH = true := by obtain ⟨_, _, _, e, _⟩ := aW; rw [e]; rfl
  have oH := (aW.fresh (by have := addV_len (g := g) eT; omega) (keeps_app _)).ow.1
  try simp only [List.append_assoc] at dW oH
  refine awCall_det' (d := true) dW (by first | omega | (simp <;> omega) | simp) ?_
  try simp (disch := omega) [wrap_in, dec_neg, baT, baC, bW, bG, cellsAt_app baT, cellsAt_app baC, cellsAt_app bW, cellsAt_app bG, oneW, one0, oneG]
  rw [putL_two oneH]
  have bH : cellsAt (M7 ++ (NA ++ (NW ++ [Slot.live ⟨[uH], true, true, 30, 1⟩]))) (M7.length + (NA.length + NW.length)) 0 1 = some [uH] := by exact box_two
  have kk : Keeps (M7 ++ (NA ++ NW)) (M7 ++ (NA ++ (NW ++ [Slot.live ⟨[uH], true, true, 30, 1⟩]))) := by simpa only [List.append_assoc] using keeps_app (M := M7 ++ (NA ++ NW)) [Slot.live ⟨[uH], true, true, 30, 1⟩]
  replace oH := oH.keeps kk
  have k0 : Keeps M7 (M7 ++ (NA ++ (NW ++ [Slot.live ⟨[uH], true, true, 30, 1⟩]))) := keeps_app _
  have lHa : M7.length ≤ (M7 ++ NA).length := by first | exact Nat.le_refl _ | simp
  have lHb : (M7 ++ (NA ++ NW)).length ≤ (M7 ++ (NA ++ (NW ++ [Slot.live ⟨[uH], true, true, 30, 1⟩]))).length := kk.len
  have lHc : M7.length ≤ (M7 ++ (NA ++ (NW ++ [Slot.live ⟨[uH], true, true, 30, 1⟩]))).length := k0.len
  have lHd : (M7 ++ NA).length ≤ (M7 ++ (NA ++ NW)).length := by simp
  have lHp : (M7.length + (NA.length + NW.length)) < (M7 ++ (NA ++ (NW ++ [Slot.live ⟨[uH], true, true, 30, 1⟩]))).length := by simp <;> omega
  have lHq : M7.length ≤ (M7.length + (NA.length + NW.length)) := by omega
  have lHr : (M7 ++ (NA ++ NW)).length ≤ (M7.length + (NA.length + NW.length)) := by simp
  replace raT := raT.keeps k0
  replace baT := cellsAt_keeps k0 baT
  replace baC := cellsAt_keeps k0 baC
  replace kb := kb.trans k0
  replace bW := cellsAt_keeps k0 bW
  replace oW := oW.keeps k0
  replace bG := cellsAt_keeps k0 bG
  replace oG := oG.keeps k0
  clear kk k0 dW aW dA rA sA
  try simp (disch := omega) [wrap_in, dec_neg, baT, baC, bW, bG, bH, oneW, one0, oneG]
  generalize (M7 ++ (NA ++ (NW ++ [Slot.live ⟨[uH], true, true, 30, 1⟩]))) = M8 at *
  generalize (M7 ++ (NA ++ NW)).length = eH at *
  generalize (M7 ++ NA).length = fH at *
  generalize (M7.length + (NA.length + NW.length)) = pH at *
  refine awCall_det' (eq_Track oH oW.rd) (by omega) ?_
  try simp (disch := omega) [wrap_in, dec_neg, baT, baC, bW, bG, bH, oneW, one0, oneG, oneH]
  refine awCall_det' (held_Track oG (by omega) (by omega)) (by omega) ?_
  simp (disch := omega) [hneg2, wrap_in]
  exact kb
end Go.Proofs.Ytimijeeihicohaa
