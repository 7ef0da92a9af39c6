/- Parts of the proof, together: Performance: what both packages' Perform give. For every input: the program's Perform returns what the reference's returns, leaves its arguments alone, and hands back memory of its own. No conditions. -/
import Derived.Test.YtimijeeihicohaaGreatZzPf19
import Derived.Test.YtimijeeihicohaaGreatZzPf23
import Derived.Test.YtimijeeihicohaaGreatZzPf24
namespace Go.Proofs.YtimijeeihicohaaGreat
open Go.RowKit
set_option linter.unusedVariables false
set_option linter.unusedSimpArgs false
set_option maxRecDepth 100000
attribute [local simp] List.getElem?_cons_zero
attribute [local irreducible] awCond awCall awLoop awDraw ow retQ retC resQ Keeps
theorem alloc_ok {l : List Gate} {V : Nat} (h : okG l = true) (hV : 1 ≤ V ∧ V ≤ 4) : okG (allocP V l).1 = true := by
  have h60 := okG_len h
  have hl := (allocP_len V l ([], 0)).1
  have hi : ∀ i, i < l.length → gateB (el l i) = true ∧ (0 < i → (el l (i - 1)).s ≤ (el l i).s) := by
    unfold okG at h
    simp only [Bool.and_eq_true, decide_eq_true_eq] at h
    exact h.1
  obtain ⟨y, hy⟩ := GoodG.alloc hV l [] 0 0 (.nil 0) (fun i hl => ⟨(hi i hl).1, (gateB_iff.1 (hi i hl).1).2.1⟩) (fun i h0 hl => (hi i hl).2 h0)
  have hl2 : (allocP V l).1.length ≤ l.length := by simpa [allocP] using hl
  exact GoodG.ok (out := (allocP V l).1) hy (by omega)
def pfV (x : Inst) (s : List Note) (t : List Tempo) (V N : Int) : List Int × Int :=
  if instB x = true ∧ scoreB s = true ∧ tempB t = true then
    if inB V 1 4 = true ∧ inB N 0 4000 = true then
      if s.any (badG t) = true then ([], 2) else (gatesL x (allocP V.toNat (gatesF t s)).1 N.toNat 4, 0)
    else ([], 2)
  else ([], 1)
theorem pfV_len {x : Inst} {s : List Note} {t : List Tempo} {V N : Int} : (pfV x s t V N).1.length ≤ 4000 := by
  unfold pfV
  split
  · split
    · split
      · exact Nat.zero_le _
      · rename_i h _
        have h3 := inB_iff.1 h.2
        show (gatesL x (allocP V.toNat (gatesF t s)).1 N.toNat 4).length ≤ 4000
        rw [gatesL_len]; omega
    · exact Nat.zero_le _
  · exact Nat.zero_le _
theorem pfV_bad {x : Inst} {s : List Note} {t : List Tempo} {V N : Int} (h : ¬ (instB x = true ∧ scoreB s = true ∧ tempB t = true)) : pfV x s t V N = ([], 1) := by unfold pfV; rw [if_neg h]
theorem pfV_rng {x : Inst} {s : List Note} {t : List Tempo} {V N : Int} (h : instB x = true ∧ scoreB s = true ∧ tempB t = true) (h' : ¬ (inB V 1 4 = true ∧ inB N 0 4000 = true)) : pfV x s t V N = ([], 2) := by unfold pfV; rw [if_pos h, if_neg h']
theorem pfV_any {x : Inst} {s : List Note} {t : List Tempo} {V N : Int} (h : instB x = true ∧ scoreB s = true ∧ tempB t = true) (h' : inB V 1 4 = true ∧ inB N 0 4000 = true) (h2 : s.any (badG t) = true) : pfV x s t V N = ([], 2) := by unfold pfV; rw [if_pos h, if_pos h', if_pos h2]
theorem pfV_ok {x : Inst} {s : List Note} {t : List Tempo} {V N : Int} (h : instB x = true ∧ scoreB s = true ∧ tempB t = true) (h' : inB V 1 4 = true ∧ inB N 0 4000 = true) (h2 : ¬ s.any (badG t) = true) : pfV x s t V N = (gatesL x (allocP V.toNat (gatesF t s)).1 N.toNat 4, 0) := by unfold pfV; rw [if_pos h, if_pos h', if_neg h2]
theorem any_not {s : List Note} {t : List Tempo} (h : ¬ s.any (badG t) = true) : ∀ n, n ∈ s → badG t n = false := by
  intro n hn
  cases hb : badG t n
  · rfl
  · exact absurd (List.any_eq_true.2 ⟨n, hn, hb⟩) h
theorem VoS.none {M : Mem} {L : List Slot} {e : Int} : VoS ([], e) M (.tuple #[.slice Option.none 0 0, iv e]) (M ++ L) := ⟨_, rfl, .nil, Same.appS _ _⟩
set_option maxHeartbeats 2000000 in
theorem Perform_i {M : Mem} {b lo hi : Nat} {us : List Value} {x : Inst} {A A2 : Option Addr} {n c n2 c2 : Nat} {s : List Note} {t : List Tempo} (V N : Int) (h : instP.rd lo hi M x us) (hM : hi ≤ M.length) (hs : Sl noteR M A n s) (hn : n ≤ 1048576) (ht : Sl tempoR M A2 n2 t) (hn2 : n2 ≤ 1048576) (hb : b ≤ M.length) :
    Ctr Tryz.prog b 32 [.agg us.toArray, .agg #[.slice A n c], .agg #[.slice A2 n2 c2], iv V, iv N] M fun r M' => VoS (pfV x s t V N) M r M' := by
  have hl := instP.len h
  have htk : us.take 8 = us := List.take_of_length_le (by omega)
  first | (refine ctr_fn Tryz.func32 rfl Tryz.ntmps32 Tryz.results32 rfl rfl (by simp) ?_) | (refine ctr_fnC Tryz.func32 rfl Tryz.ntmps32 Tryz.results32 rfl (by simp) ?_)
  simp [hl, htk]
  refine awCall_det' (isInstrument_i (instP.app h _)) (by simp <;> omega) ?_
  cases e1 : instB x
  · rw [pfV_bad (by simp [e1])]; simp; exact .none
  simp
  refine awCall_det' (isScore_i (c := c) (hs.app _) (by omega)) (by simp <;> omega) ?_
  cases e2 : scoreB s
  · rw [pfV_bad (by simp [e2])]; simp; exact .none
  simp
  refine awCall_det' (isTempos_i (c := c2) (ht.app _) (by omega)) (by simp <;> omega) ?_
  cases e3 : tempB t
  · rw [pfV_bad (by simp [e3])]; simp; exact .none
  simp
  refine awCall_det' (within_a V 1 4) (by simp <;> omega) ?_
  cases e4 : inB V 1 4
  · rw [pfV_rng ⟨e1, e2, e3⟩ (by simp [e4])]; simp; exact .none
  simp
  refine awCall_det' (isCount_a N) (by simp <;> omega) ?_
  cases e5 : inB N 0 4000
  · rw [pfV_rng ⟨e1, e2, e3⟩ (by simp [e5])]; simp; exact .none
  have k4 := inB_iff.1 e4
  have k5 := inB_iff.1 e5
  obtain ⟨K, rfl⟩ := Int.eq_ofNat_of_zero_le k5.1
  obtain ⟨Q, rfl⟩ := Int.eq_ofNat_of_zero_le (show 0 ≤ V by omega)
  simp
  refine awCall_ctr ((gatesOf_i (c := c) (c2 := c2) (hs.app _) hn (ht.app _) hn2).weaken (by simp <;> omega)) ?_
  rintro _ M1 ⟨v0, rfl, ho, hk⟩
  have lk := hk.len
  simp at lk
  by_cases e6 : s.any (badG t) = true
  · have hg : gF t s = ([], 2) := by unfold gF; rw [if_pos e6]
    rw [pfV_any ⟨e1, e2, e3⟩ ⟨e4, e5⟩ e6]
    simp [hg]
    exact ⟨_, rfl, .nil, ⟨by omega, fun i s _ hs => hk.get ((keeps_app _).get hs)⟩⟩
  have hg : gF t s = (gatesF t s, 0) := by unfold gF; rw [if_neg e6]
  rw [pfV_ok ⟨e1, e2, e3⟩ ⟨e4, e5⟩ e6]
  rw [hg] at ho ⊢
  change OwL gateR _ _ _ _ (gatesF t s) at ho
  have okg := gatesF_ok e2 (any_not e6)
  have g60 := okG_len okg
  have okA := alloc_ok okg (V := Q) (by omega)
  obtain ⟨A1, n1, c1, rfl, hn1, hS1, -⟩ := ho.rd
  have hl1 := hS1.1
  simp
  refine awCall_ctr ((allocate_a (c := c1) Q hS1 okg (by omega) (by omega)).weaken (by omega)) ?_
  rintro _ M2 ⟨v1, rfl, A3, n3, c3, rfl, hn3, hS3, -, -, k2⟩
  have kk := (keeps_app (M := M) _).trans (hk.trans k2)
  have lk2 := k2.len
  have hb8 : cellsAt M2 M.length 0 8 = some us := cellsAt_keeps (hk.trans k2) (by simp [hl, htk])
  simp (disch := omega) [hb8]
  refine awCall_ctr ((gates_i (c := c3) (instP.keeps h kk) e1 hS3 okA (by omega) (by omega)).weaken (by omega)) ?_
  rintro v M3 ⟨hA, k3⟩
  have lk3 := k3.len
  try simp
  exact ⟨_, rfl, Acc.low hA (by omega), ⟨by omega, fun i s _ hs => (kk.trans k3).get hs⟩⟩
set_option maxHeartbeats 2000000 in
theorem Perform_s {M : Mem} {b lo hi : Nat} {us : List Value} {x : Inst} {A A2 : Option Addr} {n c n2 c2 : Nat} {s : List Note} {t : List Tempo} (V N : Int) (h : instP.rd lo hi M x us) (hM : hi ≤ M.length) (hs : Sl noteR M A n s) (hn : n ≤ 1048576) (ht : Sl tempoR M A2 n2 t) (hn2 : n2 ≤ 1048576) (hb : b ≤ M.length) :
    Ctr Tryz.prog b 29 [.agg us.toArray, .agg #[.slice A n c], .agg #[.slice A2 n2 c2], iv V, iv N] M fun r M' => VoS (pfV x s t V N) M r M' := by
  have hl := instP.len h
  have htk : us.take 8 = us := List.take_of_length_le (by omega)
  have hcl : Cl (M ++ [Slot.live ⟨us, true, true, 44, 8⟩, Slot.live ⟨[.slice A n c], true, true, 70, 1⟩, Slot.live ⟨[.slice A2 n2 c2], true, true, 74, 1⟩]) M.length 0 us := fun j y hy => by simp [cellAt, hy]
  first | (refine ctr_fn Tryz.func29 rfl Tryz.ntmps29 Tryz.results29 rfl rfl (by simp) ?_) | (refine ctr_fnC Tryz.func29 rfl Tryz.ntmps29 Tryz.results29 rfl (by simp) ?_)
  simp [hl, htk]
  refine awCall_det' (l22Ok_s (instP.app h _) hcl) (by simp <;> omega) ?_
  cases e1 : instB x
  · rw [pfV_bad (by simp [e1])]; simp; exact .none
  simp
  refine awCall_det' (l18Ok_a (c := c) (hs.app _) (by simp) (by omega)) (by simp <;> omega) ?_
  cases e2 : scoreB s
  · rw [pfV_bad (by simp [e2])]; simp; exact .none
  simp
  refine awCall_det' (l17Ok_a (c := c2) (ht.app _) (by simp) (by omega)) (by simp <;> omega) ?_
  cases e3 : tempB t
  · rw [pfV_bad (by simp [e3])]; simp; exact .none
  simp
  refine awCall_det' (l00In_a V 1 4) (by simp <;> omega) ?_
  cases e4 : inB V 1 4
  · rw [pfV_rng ⟨e1, e2, e3⟩ (by simp [e4])]; simp; exact .none
  simp
  refine awCall_det' (l00In_a N 0 4000) (by simp <;> omega) ?_
  cases e5 : inB N 0 4000
  · rw [pfV_rng ⟨e1, e2, e3⟩ (by simp [e5])]; simp; exact .none
  have k4 := inB_iff.1 e4
  have k5 := inB_iff.1 e5
  obtain ⟨K, rfl⟩ := Int.eq_ofNat_of_zero_le k5.1
  obtain ⟨Q, rfl⟩ := Int.eq_ofNat_of_zero_le (show 0 ≤ V by omega)
  simp
  refine awCall_ctr ((GatesOfScore_s (c := c) (c2 := c2) (hs.app _) hn (ht.app _) hn2).weaken (by simp <;> omega)) ?_
  rw [gatesV_ok e2 e3]
  rintro _ M1 ⟨v0, rfl, ho, hk⟩
  have lk := hk.len
  simp at lk
  by_cases e6 : s.any (badG t) = true
  · have hg : gF t s = ([], 2) := by unfold gF; rw [if_pos e6]
    rw [pfV_any ⟨e1, e2, e3⟩ ⟨e4, e5⟩ e6]
    simp [hg]
    exact ⟨_, rfl, .nil, ⟨by omega, fun i s _ hs => hk.get ((keeps_app _).get hs)⟩⟩
  have hg : gF t s = (gatesF t s, 0) := by unfold gF; rw [if_neg e6]
  rw [pfV_ok ⟨e1, e2, e3⟩ ⟨e4, e5⟩ e6]
  rw [hg] at ho ⊢
  change OwL gateR _ _ _ _ (gatesF t s) at ho
  have okg := gatesF_ok e2 (any_not e6)
  have g60 := okG_len okg
  have okA := alloc_ok okg (V := Q) (by omega)
  obtain ⟨A1, n1, c1, rfl, hn1, hS1, -⟩ := ho.rd
  have hl1 := hS1.1
  simp
  refine awCall_ctr ((l21Allocate_a (c := c1) Q hS1 okg (by omega) (by omega)).weaken (by omega)) ?_
  rintro _ M2 ⟨v1, rfl, A3, n3, c3, rfl, hn3, hS3, -, -, k2⟩
  have kk := (keeps_app (M := M) _).trans (hk.trans k2)
  have lk2 := k2.len
  simp (disch := omega)
  refine awCall_ctr ((l22Gates_s (c := c3) (instP.keeps h kk) (Cl.keeps hcl (hk.trans k2)) e1 hS3 okA (by omega) ⟨by omega, by omega⟩).weaken (by omega)) ?_
  rintro v M3 ⟨hA, k3⟩
  have lk3 := k3.len
  try simp
  exact ⟨_, rfl, Acc.low hA (by omega), ⟨by omega, fun i s _ hs => (kk.trans k3).get hs⟩⟩
theorem Perform_il {M : Mem} {b lo hi lo1 hi1 lo2 hi2 : Nat} {us : List Value} {x : Inst} {v v2 : Value} {s : List Note} {t : List Tempo} (V N : Int) (h : instP.rd lo hi M x us) (hs : RdL noteR lo1 hi1 M v s) (ht : RdL tempoR lo2 hi2 M v2 t) (e1 : s.length ≤ 1048576) (e2 : t.length ≤ 1048576) (hb : b ≤ M.length ∧ hi ≤ M.length) :
    Ctr Tryz.prog b 32 [.agg us.toArray, .agg #[v], .agg #[v2], iv V, iv N] M fun r M' => VoS (pfV x s t V N) M r M' := by
  obtain ⟨A, n, c, rfl, hn, hS, -⟩ := hs
  obtain ⟨A2, n2, c2, rfl, hn2, hS2, -⟩ := ht
  exact Perform_i V N h hb.2 hS (by have := hS.1; omega) hS2 (by have := hS2.1; omega) hb.1
theorem Perform_sl {M : Mem} {b lo hi lo1 hi1 lo2 hi2 : Nat} {us : List Value} {x : Inst} {v v2 : Value} {s : List Note} {t : List Tempo} (V N : Int) (h : instP.rd lo hi M x us) (hs : RdL noteR lo1 hi1 M v s) (ht : RdL tempoR lo2 hi2 M v2 t) (e1 : s.length ≤ 1048576) (e2 : t.length ≤ 1048576) (hb : b ≤ M.length ∧ hi ≤ M.length) :
    Ctr Tryz.prog b 29 [.agg us.toArray, .agg #[v], .agg #[v2], iv V, iv N] M fun r M' => VoS (pfV x s t V N) M r M' := by
  obtain ⟨A, n, c, rfl, hn, hS, -⟩ := hs
  obtain ⟨A2, n2, c2, rfl, hn2, hS2, -⟩ := ht
  exact Perform_s V N h hb.2 hS (by have := hS.1; omega) hS2 (by have := hS2.1; omega) hb.1
end Go.Proofs.YtimijeeihicohaaGreat

namespace Go.Proofs.YtimijeeihicohaaGreat
open Go.ChangeShapes Go.WideShapes Go.ChangeAt Go.RowKit
open Go.RowKit
set_option linter.unusedVariables false
set_option linter.unusedSimpArgs false
set_option maxRecDepth 100000
attribute [local simp] List.getElem?_cons_zero
attribute [local irreducible] awCond awCall awLoop awDraw ow retQ retC resQ Keeps
set_option maxHeartbeats 8000000 in
theorem lawPerform_a {M : Mem} {us : List Value} {vS vT : Value} {x : Inst} {xS : List Note} {xT : List Tempo} (aV aN : Int) (rs : instP.rd 0 M.length M x us) (raS : RdL noteR 0 M.length M vS xS) (raT : RdL tempoR 0 M.length M vT xT) : Det Tryz.prog M.length 6 [.agg us.toArray, .agg #[vS], .agg #[vT], iv aV, iv aN] M (.bool true) M := by
  have hu := instP.len rs
  have tu : us.take 8 = us := List.take_of_length_le (by omega)
  first | (refine det_fn Tryz.func6 rfl Tryz.ntmps6 Tryz.results6 rfl rfl rfl (by simp) ?_) | (refine det_fnC Tryz.func6 rfl Tryz.ntmps6 Tryz.results6 rfl rfl (by simp) ?_)
  simp [hu, tu]
  obtain ⟨M0, hM0⟩ : ∃ M0 : Mem, M0 = M ++ [Slot.live ⟨us, true, true, 31, 8⟩, Slot.live ⟨[vS], true, true, 61, 1⟩, Slot.live ⟨[vT], true, true, 64, 1⟩] := ⟨_, rfl⟩
  have kb : Keeps M M0 := by rw [hM0]; exact keeps_app _
  have qb : M0.length = M.length + 3 := by rw [hM0]; simp
  have baI : cellsAt M0 M.length 0 8 = some us := by rw [hM0]; simp [hu, tu]
  have baS : cellsAt M0 (M.length + 1) 0 1 = some [vS] := by rw [hM0]; simp
  have baT : cellsAt M0 (M.length + 2) 0 1 = some [vT] := by rw [hM0]; simp
  rw [← hM0]
  clear hM0
  replace rs := instP.keeps rs kb
  replace raS := raS.keeps kb
  replace raT := raT.keeps kb
  refine awCall_det' (szInstrument_x rs (z := 1048576) (by omega) (by omega)) (by omega) ?_
  by_cases g1 : (1048576 : Int) - wtInst x < 0
  · simp [g1]; exact kb
  have sx := wtInst_small g1 (by omega)
  simp (disch := omega) [g1, baI, baS]
  by_cases g2 : (1048576 : Int) - wtInst x < xS.length
  · refine awCall_det' (sz_Score_over raS (z := 1048576 - wtInst x) (by omega) (by omega) (by omega)) (by omega) ?_
    simp; exact kb
  refine awCall_det' (sz_Score raS (z := 1048576 - wtInst x) (by omega) (by omega) (by omega)) (by omega) ?_
  have g3 : ¬ (1048576 : Int) - wtInst x - xS.length < 0 := by omega
  simp (disch := omega) [g3, baT]
  by_cases g4 : (1048576 : Int) - wtInst x - xS.length < xT.length
  · refine awCall_det' (sz_TempoMap_over raT (z := 1048576 - wtInst x - xS.length) (by omega) (by omega) (by omega)) (by omega) ?_
    simp; exact kb
  refine awCall_det' (sz_TempoMap raT (z := 1048576 - wtInst x - xS.length) (by omega) (by omega) (by omega)) (by omega) ?_
  have g5 : ¬ (1048576 : Int) - wtInst x - xS.length - xT.length < 0 := by omega
  simp (disch := omega) [g5, baI]
  have wx : wtInst x ≤ 1048576 := by omega
  have eS : xS.length ≤ 1048576 := by omega
  have eT : xT.length ≤ 1048576 := by omega
  clear g1 g2 g3 g4 g5
  refine awDraw_M 8 [[],[0],[],[2,1,0],[],[4,3,2,1,0],[],[],[1,0,3,2,5,4,6,7],[8,1,0,3,2,5,4,6,7],[9,8,1,0,3,2,5,4,6,7],[9,8,1,0,3,2,5,4,6,7],[10,9,8,1,0,3,2,5,4,6,7],[11,9,8,1,0,3,2,5,4,6,7,12,10]] [10,11] (by kernel_rfl) (by decide +kernel) (by decide +kernel) ?_
  try simp (disch := omega) [wrap_in, dec_neg, baI, baS, baT]
  obtain ⟨uI1, NI, dI, rI1, -⟩ := toInstrument_w rs sx
  refine awCall_det' (d := true) dI (by omega) ?_
  try simp (disch := omega) [wrap_in, cellsAt_app baI, cellsAt_app baS, cellsAt_app baT]
  obtain ⟨uS1, NS, dS, rS1⟩ := to_Score_d (raS.keeps (keeps_app NI)) eS
  refine awCall_det' (d := true) dS (by first | omega | (simp <;> omega) | simp) ?_
  try simp (disch := omega) [wrap_in, cellsAt_app baI, cellsAt_app baS, cellsAt_app baT]
  obtain ⟨uT1, NT, dT, rT1⟩ := to_TempoMap_d (raT.keeps ((keeps_app NI).trans (keeps_app NS))) eT
  simp only [List.append_assoc] at dS rS1 dT rT1
  refine awCall_det' (d := true) dT (by first | omega | (simp <;> omega) | simp) ?_
  try simp (disch := omega) [wrap_in, cellsAt_app baI, cellsAt_app baS, cellsAt_app baT]
  have q1 : Keeps (M0 ++ NI) (M0 ++ (NI ++ (NS ++ NT))) := by rw [← List.append_assoc]; exact keeps_app _
  have q2 : Keeps (M0 ++ (NI ++ NS)) (M0 ++ (NI ++ (NS ++ NT))) := by simpa only [List.append_assoc] using keeps_app (M := M0 ++ (NI ++ NS)) NT
  have q0 : Keeps M0 (M0 ++ (NI ++ (NS ++ NT))) := keeps_app _
  replace rI1 := instP.keeps rI1 q1
  replace rS1 := rS1.keeps q2
  have nn1 := q0.len
  have l1 := q1.len
  have l2 := q2.len
  have l3 : M0.length ≤ (M0 ++ NI).length := by simp
  have l4 : M0.length ≤ (M0 ++ (NI ++ NS)).length := by simp
  replace rs := instP.keeps rs q0
  replace raS := raS.keeps q0
  replace raT := raT.keeps q0
  replace baI := cellsAt_keeps q0 baI
  replace baS := cellsAt_keeps q0 baS
  replace baT := cellsAt_keeps q0 baT
  replace kb := kb.trans q0
  clear dI dS dT q0 q1 q2
  generalize (M0 ++ (NI ++ (NS ++ NT))) = M1 at *
  generalize (M0 ++ NI).length = lI1 at *
  generalize (M0 ++ (NI ++ NS)).length = lS1 at *
  refine awCall_ctr (Perform_sl aV aN rI1 rS1.rd rT1.rd eS eT ⟨by omega, by omega⟩) ?_
  rintro _ M2 ⟨w, rfl, aw, hS2⟩
  clear rI1 rS1 rT1 l1 l2 l3 l4
  have k2 : Keeps M1 M2 := slt hS2
  have n2 := k2.len
  replace rs := instP.keeps rs k2
  replace raS := raS.keeps k2
  replace raT := raT.keeps k2
  replace baI := cellsAt_keeps k2 baI
  replace baS := cellsAt_keeps k2 baS
  replace baT := cellsAt_keeps k2 baT
  replace kb := kb.trans k2
  clear hS2 k2
  have hok := pfV_len (x := x) (s := xS) (t := xT) (V := aV) (N := aN)
  generalize ho : (pfV x xS xT aV aN).1 = out at *
  generalize hco : (pfV x xS xT aV aN).2 = code at *
  have aws := VoO.slv aw hok
  clear aw
  try simp (disch := omega) [wrap_in, dec_neg, baI, baS, baT]
  -- the program's arguments
  obtain ⟨v3, N3, d3, r3, q3⟩ := toInstrument_w rs sx
  refine awCall_det' d3 (by omega) ?_
  refine inst_box r3 (by simp; omega) rfl ?_
  have bx : cellsAt (M2 ++ N3 ++ [Slot.live ⟨v3, true, true, 44, 8⟩]) (M2 ++ N3).length 0 8 = some v3 := cells_own (instP.len r3)
  have ow3 : OwnR M2.length (M2 ++ N3).length (M2 ++ N3 ++ [Slot.live ⟨v3, true, true, 44, 8⟩]) := q3.r.app (Nat.le_refl _) _
  replace r3 := instP.app r3 [Slot.live ⟨v3, true, true, 44, 8⟩]
  have k3 : Keeps M2 (M2 ++ N3 ++ [Slot.live ⟨v3, true, true, 44, 8⟩]) := (keeps_app N3).trans (keeps_app _)
  replace rs := instP.keeps rs k3
  replace raS := raS.keeps k3
  replace raT := raT.keeps k3
  replace baI := cellsAt_keeps k3 baI
  replace baS := cellsAt_keeps k3 baS
  replace baT := cellsAt_keeps k3 baT
  replace kb := kb.trans k3
  replace aws := aws.keeps k3
  have qq : (M2 ++ N3).length < (M2 ++ N3 ++ [Slot.live ⟨v3, true, true, 44, 8⟩]).length := by simp
  have qs : M2.length ≤ (M2 ++ N3).length := by simp
  clear d3 q3 k3
  generalize (M2 ++ N3 ++ [Slot.live ⟨v3, true, true, 44, 8⟩]) = M3 at *
  generalize (M2 ++ N3).length = p at *
  generalize M2.length = s at *
  try simp (disch := omega) [wrap_in, dec_neg, baI, baS, baT, bx]
  obtain ⟨uS, N4, d4, oS⟩ := to_Score_d raS eS
  have oneS := oS.one
  refine awCall_det' d4 (by omega) ?_
  obtain ⟨M4, hM4, k4⟩ : ∃ M' : Mem, M' = M3 ++ N4 ∧ Keeps M3 M' := ⟨_, rfl, keeps_app _⟩
  rw [← hM4] at oS
  rw [← hM4]
  have n4 := k4.len
  replace rs := instP.keeps rs k4
  replace raS := raS.keeps k4
  replace raT := raT.keeps k4
  replace baI := cellsAt_keeps k4 baI
  replace baS := cellsAt_keeps k4 baS
  replace baT := cellsAt_keeps k4 baT
  replace kb := kb.trans k4
  replace aws := aws.keeps k4
  replace bx := cellsAt_keeps k4 bx
  replace ow3 := ow3.agree (k4).agree (by omega)
  replace r3 := instP.keeps r3 k4
  clear k4 d4 hM4
  try simp (disch := omega) [wrap_in, dec_neg, baI, baS, baT, bx, oneS]
  obtain ⟨M5, hM5⟩ : ∃ M' : Mem, M' = M4 ++ [.live ⟨[uS], true, true, 70, 1⟩] := ⟨_, rfl⟩
  have bxS : cellsAt M5 M4.length 0 1 = some [uS] := by rw [hM5]; simp
  have k5 : Keeps M4 M5 := by rw [hM5]; exact keeps_app _
  have n5 : M5.length = M4.length + 1 := by rw [hM5]; simp
  rw [← hM5]
  replace rs := instP.keeps rs k5
  replace raS := raS.keeps k5
  replace raT := raT.keeps k5
  replace baI := cellsAt_keeps k5 baI
  replace baS := cellsAt_keeps k5 baS
  replace baT := cellsAt_keeps k5 baT
  replace kb := kb.trans k5
  replace aws := aws.keeps k5
  replace bx := cellsAt_keeps k5 bx
  replace ow3 := ow3.agree (k5).agree (by omega)
  replace r3 := instP.keeps r3 k5
  replace oS := oS.keeps k5
  clear k5 hM5
  try simp (disch := omega) [wrap_in, dec_neg, baI, baS, baT, bx, bxS, oneS]
  obtain ⟨uT, N6, d6, oT⟩ := to_TempoMap_d raT eT
  have oneT := oT.one
  refine awCall_det' d6 (by omega) ?_
  obtain ⟨M6, hM6, k6⟩ : ∃ M' : Mem, M' = M5 ++ N6 ∧ Keeps M5 M' := ⟨_, rfl, keeps_app _⟩
  rw [← hM6] at oT
  rw [← hM6]
  have n6 := k6.len
  replace rs := instP.keeps rs k6
  replace raS := raS.keeps k6
  replace raT := raT.keeps k6
  replace baI := cellsAt_keeps k6 baI
  replace baS := cellsAt_keeps k6 baS
  replace baT := cellsAt_keeps k6 baT
  replace kb := kb.trans k6
  replace aws := aws.keeps k6
  replace bx := cellsAt_keeps k6 bx
  replace ow3 := ow3.agree (k6).agree (by omega)
  replace r3 := instP.keeps r3 k6
  replace oS := oS.keeps k6
  replace bxS := cellsAt_keeps k6 bxS
  clear k6 d6 hM6
  try simp (disch := omega) [wrap_in, dec_neg, baI, baS, baT, bx, bxS, oneS, oneT]
  obtain ⟨M7, hM7⟩ : ∃ M' : Mem, M' = M6 ++ [.live ⟨[uT], true, true, 74, 1⟩] := ⟨_, rfl⟩
  have bxT : cellsAt M7 M6.length 0 1 = some [uT] := by rw [hM7]; simp
  have k7 : Keeps M6 M7 := by rw [hM7]; exact keeps_app _
  have n7 : M7.length = M6.length + 1 := by rw [hM7]; simp
  rw [← hM7]
  replace rs := instP.keeps rs k7
  replace raS := raS.keeps k7
  replace raT := raT.keeps k7
  replace baI := cellsAt_keeps k7 baI
  replace baS := cellsAt_keeps k7 baS
  replace baT := cellsAt_keeps k7 baT
  replace kb := kb.trans k7
  replace aws := aws.keeps k7
  replace bx := cellsAt_keeps k7 bx
  replace ow3 := ow3.agree (k7).agree (by omega)
  replace r3 := instP.keeps r3 k7
  replace oS := oS.keeps k7
  replace bxS := cellsAt_keeps k7 bxS
  replace oT := oT.keeps k7
  clear k7 hM7
  try simp (disch := omega) [wrap_in, dec_neg, baI, baS, baT, bx, bxS, bxT, oneS, oneT]
  refine awCall_ctr (Perform_il aV aN r3 oS.rd oT.rd eS eT ⟨by omega, by omega⟩) ?_
  rintro _ M8 ⟨g, rfl, ag, hS8⟩
  rw [ho] at ag
  rw [hco]
  have k8 : Keeps M7 M8 := slt hS8
  have n8 := k8.len
  replace rs := instP.keeps rs k8
  replace raS := raS.keeps k8
  replace raT := raT.keeps k8
  replace baI := cellsAt_keeps k8 baI
  replace baS := cellsAt_keeps k8 baS
  replace baT := cellsAt_keeps k8 baT
  replace kb := kb.trans k8
  replace aws := aws.keeps k8
  replace bx := cellsAt_keeps k8 bx
  replace ow3 := ow3.agree (k8).agree (by omega)
  replace r3 := instP.keeps r3 k8
  replace oS := oS.keeps k8
  replace bxS := cellsAt_keeps k8 bxS
  replace oT := oT.keeps k8
  replace bxT := cellsAt_keeps k8 bxT
  clear hS8 k8
  try simp (disch := omega) [wrap_in, dec_neg, baI, baS, baT, bx, bxS, bxT, oneS, oneT]
  refine awCall_det' (eqInt64S_x (VoO.slv ag hok) aws) (by omega) ?_
  try simp (disch := omega) [wrap_in, dec_neg, baI, baS, baT, bx, bxS, bxT, oneS, oneT]
  refine awDraw_D 3 [[],[],[1],[0,2,1],[3,0,2,1]] (by kernel_rfl) (by decide +kernel) ?_
  try simp (disch := omega) [wrap_in, dec_neg, baI, baS, baT, bx, bxS, bxT, oneS, oneT]
  obtain ⟨v9, N9, d9, r9⟩ := toInstrument_x rs sx
  refine awCall_det' (d := true) d9 (by omega) ?_
  simp (disch := omega) [wrap_in, cellsAt_app baI, cellsAt_app baS, cellsAt_app baT, cellsAt_app bx, cellsAt_app bxS, cellsAt_app bxT]
  refine awCall_det' (eqInstrument_x (instP.app r3 N9) r9 sx.segs) (by simp <;> omega) ?_
  simp
  have k9 : Keeps M8 (M8 ++ N9) := keeps_app _
  have n9 := k9.len
  replace rs := instP.keeps rs k9
  replace raS := raS.keeps k9
  replace raT := raT.keeps k9
  replace baI := cellsAt_keeps k9 baI
  replace baS := cellsAt_keeps k9 baS
  replace baT := cellsAt_keeps k9 baT
  replace kb := kb.trans k9
  replace aws := aws.keeps k9
  replace bx := cellsAt_keeps k9 bx
  replace ow3 := ow3.agree (k9).agree (by omega)
  replace r3 := instP.keeps r3 k9
  replace oS := oS.keeps k9
  replace bxS := cellsAt_keeps k9 bxS
  replace oT := oT.keeps k9
  replace bxT := cellsAt_keeps k9 bxT
  replace ag := VoO.keeps ag k9
  clear d9 r9 k9
  generalize M8 ++ N9 = M9 at *
  refine awDraw_D 3 [[],[],[1],[0,2,1],[3,0,2,1]] (by kernel_rfl) (by decide +kernel) ?_
  try simp (disch := omega) [wrap_in, dec_neg, baI, baS, baT, bx, bxS, bxT, oneS, oneT]
  obtain ⟨v10, N10, d10, r10⟩ := to_Score_d raS eS
  refine awCall_det' (d := true) d10 (by omega) ?_
  try simp (disch := omega) [wrap_in, cellsAt_app baI, cellsAt_app baS, cellsAt_app baT, cellsAt_app bx, cellsAt_app bxS, cellsAt_app bxT]
  refine awCall_det' (eq_Score (oS.keeps (keeps_app N10)) r10.rd) (by first | omega | (simp <;> omega) | simp) ?_
  simp
  have k10 : Keeps M9 (M9 ++ N10) := keeps_app _
  have n10 := k10.len
  replace rs := instP.keeps rs k10
  replace raS := raS.keeps k10
  replace raT := raT.keeps k10
  replace baI := cellsAt_keeps k10 baI
  replace baS := cellsAt_keeps k10 baS
  replace baT := cellsAt_keeps k10 baT
  replace kb := kb.trans k10
  replace aws := aws.keeps k10
  replace bx := cellsAt_keeps k10 bx
  replace ow3 := ow3.agree (k10).agree (by omega)
  replace r3 := instP.keeps r3 k10
  replace oS := oS.keeps k10
  replace bxS := cellsAt_keeps k10 bxS
  replace oT := oT.keeps k10
  replace bxT := cellsAt_keeps k10 bxT
  replace ag := VoO.keeps ag k10
  clear d10 r10 k10
  generalize M9 ++ N10 = M10 at *
  refine awDraw_D 3 [[],[],[1],[0,2,1],[3,0,2,1]] (by kernel_rfl) (by decide +kernel) ?_
  try simp (disch := omega) [wrap_in, dec_neg, baI, baS, baT, bx, bxS, bxT, oneS, oneT]
  obtain ⟨v11, N11, d11, r11⟩ := to_TempoMap_d raT eT
  refine awCall_det' (d := true) d11 (by omega) ?_
  try simp (disch := omega) [wrap_in, cellsAt_app baI, cellsAt_app baS, cellsAt_app baT, cellsAt_app bx, cellsAt_app bxS, cellsAt_app bxT]
  refine awCall_det' (eq_TempoMap (oT.keeps (keeps_app N11)) r11.rd) (by first | omega | (simp <;> omega) | simp) ?_
  simp
  have k11 : Keeps M10 (M10 ++ N11) := keeps_app _
  have n11 := k11.len
  replace rs := instP.keeps rs k11
  replace raS := raS.keeps k11
  replace raT := raT.keeps k11
  replace baI := cellsAt_keeps k11 baI
  replace baS := cellsAt_keeps k11 baS
  replace baT := cellsAt_keeps k11 baT
  replace kb := kb.trans k11
  replace aws := aws.keeps k11
  replace bx := cellsAt_keeps k11 bx
  replace ow3 := ow3.agree (k11).agree (by omega)
  replace r3 := instP.keeps r3 k11
  replace oS := oS.keeps k11
  replace bxS := cellsAt_keeps k11 bxS
  replace oT := oT.keeps k11
  replace bxT := cellsAt_keeps k11 bxT
  replace ag := VoO.keeps ag k11
  clear d11 r11 k11
  generalize M10 ++ N11 = M11 at *
  try simp (disch := omega) [wrap_in, dec_neg, baI, baS, baT, bx, bxS, bxT, oneS, oneT]
  -- marks on the arguments
  refine awCall_ctr (markInstrument_k 1 r3 ow3 (by omega) (by omega) (by omega) (by omega) (by omega) (by omega)) ?_
  rintro _ M12 ⟨rfl, m12⟩
  have t12 := m12.turn
  clear r3 ow3 bx
  clear m12
  have n12 := t12.1
  have a12 : Agree 0 s M11 M12 := t12.agree (.inl (Nat.le_refl _))
  replace bxS := (t12.agree (lo := p) (hi := M11.length) (.inr (Nat.le_refl _))).cells (by omega) (by omega) bxS
  replace bxT := (t12.agree (lo := p) (hi := M11.length) (.inr (Nat.le_refl _))).cells (by omega) (by omega) bxT
  replace rs := instP.agree rs (a12.thin (Nat.le_refl _) (by omega))
  replace raS := raS.turn t12 (.inl (by omega))
  replace raT := raT.turn t12 (.inl (by omega))
  replace baI := a12.cells (Nat.zero_le _) (by omega) baI
  replace baS := a12.cells (Nat.zero_le _) (by omega) baS
  replace baT := a12.cells (Nat.zero_le _) (by omega) baT
  replace kb := t12.keeps kb (by omega)
  replace aws := aws.agree (a12.thin (Nat.zero_le _) (by omega))
  replace oS := oS.turn t12 (.inr (by omega))
  replace oT := oT.turn t12 (.inr (by omega))
  replace ag := VoO.turn ag t12 (by omega)
  clear a12 t12
  have hmk := mkInst_le wx
  try simp (disch := omega) [wrap_in, dec_neg, baI, baS, baT, bxS, bxT, oneS, oneT]
  refine awCall_ctr ((mark_Score (b := M.length) oS (by omega) (by omega) (by omega)).weaken (Nat.le_refl _)) ?_
  rintro _ M13 ⟨rfl, -, t13⟩
  clear oS
  clear bxS
  have n13 := t13.1
  have a13 : Agree 0 s M12 M13 := t13.agree (.inl (by omega))
  replace bxT := (t13.agree (lo := M4.length) (hi := M12.length) (.inr (Nat.le_refl _))).cells (by omega) (by omega) bxT
  replace rs := instP.agree rs (a13.thin (Nat.le_refl _) (by omega))
  replace raS := raS.turn t13 (.inl (by omega))
  replace raT := raT.turn t13 (.inl (by omega))
  replace baI := a13.cells (Nat.zero_le _) (by omega) baI
  replace baS := a13.cells (Nat.zero_le _) (by omega) baS
  replace baT := a13.cells (Nat.zero_le _) (by omega) baT
  replace kb := t13.keeps kb (by omega)
  replace aws := aws.agree (a13.thin (Nat.zero_le _) (by omega))
  replace oT := oT.turn t13 (.inr (by omega))
  replace ag := VoO.turn ag t13 (by omega)
  clear a13 t13
  try simp (disch := omega) [wrap_in, dec_neg, baI, baS, baT, bxT, oneS, oneT]
  refine awCall_ctr ((mark_TempoMap (b := M.length) oT (by omega) (by omega) (by omega)).weaken (Nat.le_refl _)) ?_
  rintro _ M14 ⟨rfl, -, t14⟩
  clear oT bxT
  have n14 := t14.1
  have a14 : Agree 0 s M13 M14 := t14.agree (.inl (by omega))
  replace rs := instP.agree rs (a14.thin (Nat.le_refl _) (by omega))
  replace raS := raS.turn t14 (.inl (by omega))
  replace raT := raT.turn t14 (.inl (by omega))
  replace baI := a14.cells (Nat.zero_le _) (by omega) baI
  replace baS := a14.cells (Nat.zero_le _) (by omega) baS
  replace baT := a14.cells (Nat.zero_le _) (by omega) baT
  replace kb := t14.keeps kb (by omega)
  replace aws := aws.agree (a14.thin (Nat.zero_le _) (by omega))
  replace ag := VoO.turn ag t14 (by omega)
  clear a14 t14
  have hneg : ¬ (1 + (mkInst x : Int) + xS.length * 7 + xT.length * 3 < 0) := by omega
  try simp (disch := omega) [wrap_in, dec_neg, baI, baS, baT, oneS, oneT, hneg]
  refine awCall_det' (eqInt64S_x (VoO.slv ag hok) aws) (by omega) ?_
  try simp (disch := omega) [wrap_in, dec_neg, baI, baS, baT, oneS, oneT]
  -- the result is one's own
  refine awCall_ctr (mark_VoO ag (by omega) hok) ?_
  clear ag
  rintro _ M15 ⟨rfl, ag, t15⟩
  have n15 := t15.1
  have a15 : Agree 0 s M14 M15 := t15.agree (.inl (by omega))
  replace rs := instP.agree rs (a15.thin (Nat.le_refl _) (by omega))
  replace raS := raS.turn t15 (.inl (by omega))
  replace raT := raT.turn t15 (.inl (by omega))
  replace baI := a15.cells (Nat.zero_le _) (by omega) baI
  replace baS := a15.cells (Nat.zero_le _) (by omega) baS
  replace baT := a15.cells (Nat.zero_le _) (by omega) baT
  replace kb := t15.keeps kb (by omega)
  replace aws := aws.agree (a15.thin (Nat.zero_le _) (by omega))
  clear a15 t15
  try simp (disch := omega) [wrap_in, dec_neg, baI, baS, baT, oneS, oneT]
  refine awCall_det' (held_VoO ag hok) (by omega) ?_
  generalize htot : totI out = tot at *
  have hneg2 : ¬ (1 + (tot : Int) < 0) := by omega
  try simp (disch := omega) [wrap_in, dec_neg, baI, baS, baT, oneS, oneT, hneg2]
  -- once more
  refine awDraw_M 8 [[],[0],[],[2,1,0],[],[4,3,2,1,0],[],[],[1,0,3,2,5,4,6,7],[8,1,0,3,2,5,4,6,7],[9,8,1,0,3,2,5,4,6,7],[9,8,1,0,3,2,5,4,6,7],[10,9,8,1,0,3,2,5,4,6,7],[11,9,8,1,0,3,2,5,4,6,7,12,10]] [10,11] (by kernel_rfl) (by decide +kernel) (by decide +kernel) ?_
  try simp (disch := omega) [wrap_in, dec_neg, baI, baS, baT, oneS, oneT]
  obtain ⟨uI2, NI, dI, rI2, -⟩ := toInstrument_w rs sx
  refine awCall_det' (d := true) dI (by omega) ?_
  try simp (disch := omega) [wrap_in, cellsAt_app baI, cellsAt_app baS, cellsAt_app baT]
  obtain ⟨uS2, NS, dS, rS2⟩ := to_Score_d (raS.keeps (keeps_app NI)) eS
  refine awCall_det' (d := true) dS (by first | omega | (simp <;> omega) | simp) ?_
  try simp (disch := omega) [wrap_in, cellsAt_app baI, cellsAt_app baS, cellsAt_app baT]
  obtain ⟨uT2, NT, dT, rT2⟩ := to_TempoMap_d (raT.keeps ((keeps_app NI).trans (keeps_app NS))) eT
  simp only [List.append_assoc] at dS rS2 dT rT2
  refine awCall_det' (d := true) dT (by first | omega | (simp <;> omega) | simp) ?_
  try simp (disch := omega) [wrap_in, cellsAt_app baI, cellsAt_app baS, cellsAt_app baT]
  have q1 : Keeps (M15 ++ NI) (M15 ++ (NI ++ (NS ++ NT))) := by rw [← List.append_assoc]; exact keeps_app _
  have q2 : Keeps (M15 ++ (NI ++ NS)) (M15 ++ (NI ++ (NS ++ NT))) := by simpa only [List.append_assoc] using keeps_app (M := M15 ++ (NI ++ NS)) NT
  have q0 : Keeps M15 (M15 ++ (NI ++ (NS ++ NT))) := keeps_app _
  replace rI2 := instP.keeps rI2 q1
  replace rS2 := rS2.keeps q2
  have nn2 := q0.len
  have l1 := q1.len
  have l2 := q2.len
  have l3 : M15.length ≤ (M15 ++ NI).length := by simp
  have l4 : M15.length ≤ (M15 ++ (NI ++ NS)).length := by simp
  replace rs := instP.keeps rs q0
  replace raS := raS.keeps q0
  replace raT := raT.keeps q0
  replace baI := cellsAt_keeps q0 baI
  replace baS := cellsAt_keeps q0 baS
  replace baT := cellsAt_keeps q0 baT
  replace kb := kb.trans q0
  replace aws := aws.keeps q0
  replace ag := VoO.keeps ag q0
  clear dI dS dT q0 q1 q2
  generalize (M15 ++ (NI ++ (NS ++ NT))) = M16 at *
  generalize (M15 ++ NI).length = lI2 at *
  generalize (M15 ++ (NI ++ NS)).length = lS2 at *
  refine awCall_ctr (Perform_il aV aN rI2 rS2.rd rT2.rd eS eT ⟨by omega, by omega⟩) ?_
  rintro _ M17 ⟨h, rfl, ah, hS17⟩
  clear rI2 rS2 rT2
  have k17 : Keeps M16 M17 := slt hS17
  have n17 := k17.len
  replace aws := aws.keeps k17
  replace ag := VoO.keeps ag k17
  replace kb := kb.trans k17
  rw [ho] at ah
  rw [hco]
  clear hS17 k17
  try simp (disch := omega)
  refine awCall_det' (eqInt64S_x (VoO.slv ah hok) aws) (by omega) ?_
  try simp (disch := omega)
  refine awCall_det' (held_VoO ag hok) (by omega) ?_
  rw [htot]
  simp (disch := omega) [hneg2, wrap_in]
  exact kb
end Go.Proofs.YtimijeeihicohaaGreat
