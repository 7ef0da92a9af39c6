/- Parts of the proof, together: Tempo maps: the reference's functions. Tempo maps: the reference's position of a beat. Positions and samples grow with beats. Tempo maps: the program's position of a beat. Tempo maps: the program's test of a map, and the position of a beat. No conditions. -/
import Derived.Test.YtimijeeihicohaaGreatZzPf21
namespace Go.Proofs.YtimijeeihicohaaGreat
open Go.RowKit
set_option linter.unusedVariables false
set_option linter.unusedSimpArgs false
set_option maxRecDepth 100000
attribute [local simp] List.getElem?_cons_zero
attribute [local irreducible] awCond awCall awLoop awDraw ow retQ retC resQ Keeps
theorem Same.app' (B : Nat) (M L : Mem) : Same B M (M ++ L) := ⟨by simp, fun i s _ hs => by rw [List.getElem?_append_left (List.getElem?_eq_some_iff.1 hs).1]; exact hs⟩
theorem Same.tr {B : Nat} {M M1 M2 : Mem} (h : Same B M M1) (h' : Same B M1 M2) : Same B M M2 := ⟨Nat.le_trans h.1 h'.1, fun i s hi hs => h'.2 i s hi (h.2 i s hi hs)⟩
theorem Same.setb {B id : Nat} {M : Mem} {s : Slot} (h : B ≤ id) : Same B M (M.set id s) := ⟨by simp, fun i t hi ht => by rw [List.getElem?_set_ne (by omega)]; exact ht⟩
theorem Same.keepsA {M M' : Mem} (h : Same M.length M M') : Keeps M M' := by
  unfold Keeps
  exact fun i s hs => h.2 i s (List.getElem?_eq_some_iff.1 hs).1 hs
theorem Acc.set_apart {α : Type} {q : Nat} {R : RecV α q} {e : TypeId} {B i : Nat} {M : Mem} {v : Value} {l : List α} {s : Slot} (h : Acc R e B M v l) (ha : Apart v i) : Acc R e B (M.set i s) v l := by
  obtain ⟨A, n, c, rfl, h2, h3⟩ := h
  refine ⟨A, n, c, rfl, h2, ?_⟩
  rcases h3 with h3 | ⟨id, t, rfl, h5, h6⟩
  · exact .inl h3
  · have hne : i ≠ id := ha _ _ _ _ rfl rfl
    exact .inr ⟨id, t, rfl, h5, by rw [List.getElem?_set_ne hne]; exact h6⟩
theorem l17On_a {M : Mem} (frm beat at_ : Frac) (s : Int) : Det Tryz.prog M.length 166 [frm.v, beat.v, iv s, at_.v] M (.tuple #[(onY frm beat s at_).v, .bool (onOk frm beat s at_)]) M := by
  first | (refine det_fn Tryz.func166 rfl Tryz.ntmps166 Tryz.results166 rfl rfl rfl (by simp) ?_) | (refine det_fnC Tryz.func166 rfl Tryz.ntmps166 Tryz.results166 rfl rfl (by simp) ?_)
  simp
  refine awCall_det' (SubFrac_s beat frm) (by simp) ?_
  simp [fr_build]
  refine awCall_det' (MulFrac_s (subF beat frm).1 ⟨s, 1⟩) (by simp) ?_
  simp
  refine awCall_det' (AddFrac_s at_ (mulF (subF beat frm).1 ⟨s, 1⟩).1) (by simp) ?_
  unfold onOk onY
  by_cases h1 : (subF beat frm).2 = 0
  · by_cases h2 : (mulF (subF beat frm).1 ⟨s, 1⟩).2 = 0
    · simp [h1, h2, keeps_app]
    · simp [h1, h2, keeps_app]
  · simp [h1, keeps_app]
theorem tempB_len {l : List Tempo} (h : inB l.length 1 8 = false) : tempB l = false := by simp [tempB, tempA, h]
theorem tempB_iff {l : List Tempo} : tempB l = true ↔ tempA l = true ∧ ∀ k, k < l.length → (posK l k).isSome = true := by
  simp only [tempB, Bool.and_eq_true, decide_eq_true_eq]
theorem tempB_no {l : List Tempo} (h : tempB l = true → False) : tempB l = false := by
  cases hb : tempB l with
  | false => rfl
  | true => exact (h hb).elim
theorem posAll_len (l : List Tempo) : (posAll l).length = l.length := by simp [posAll]
theorem posAll_el {l : List Tempo} {k : Nat} {a : Frac} (hk : k < l.length) (h : posK l k = some a) : el (posAll l) k = a := by
  rw [← el_eq (l := posAll l) (by rw [posAll_len]; exact hk)]
  simp [posAll, h]
theorem posAll_take {l : List Tempo} {k : Nat} {a : Frac} (hk : k < l.length) (h : posK l k = some a) : (posAll l).take (k + 1) = (posAll l).take k ++ [a] := by
  rw [take_el (by rw [posAll_len]; exact hk), posAll_el hk h]
theorem tempo_cellsN {M : Mem} {id off : Nat} {t : Tempo} (h : Cl M id off t.row) : cellsAt M id off 2 = some [iv t.bn, iv t.bd] :=
  cellsAt_of (fun j x hx => h j x (by
    rcases j with _ | _ | j
    · exact hx
    · exact hx
    · simp at hx)) rfl (by omega)
theorem at_build (x : Int) : Instr.fill (fun x => [(0, 1), (1, 1)][x]?) #[iv 0, iv 0] [(1, iv x)] = some #[iv 0, iv x] := by rfl
theorem cells_hrq {M : Mem} {id n : Nat} {r : Row} (h : M[id]? = some (.live r)) (hn : n = r.cells.length) : cellsAt M id 0 n = some r.cells := by
  subst hn
  simp [cellsAt, h]
/-- How far the reading of a map has come. -/
structure TP (l : List Tempo) (k : Nat) (a : Frac) : Prop where
  tempo : ∀ i, i < k → tempoB (el l i) = true
  first : 0 < k → (el l 0).bn = 0
  sort : ∀ i, i < k → 0 < i → cmpF (el l (i - 1)).beat (el l i).beat < 0
  pos : ∀ i, i < k → (posK l i).isSome = true
  at_ : posK l (k - 1) = some a
theorem TP.done {l : List Tempo} {a : Frac} (h : TP l l.length a) (hl : inB l.length 1 8 = true) : tempB l = true :=
  tempB_iff.2 ⟨tempA_iff.2 ⟨by have := inB_iff.1 hl; omega, h.tempo, h.first (by have := inB_iff.1 hl; omega), h.sort⟩, h.pos⟩
def PosR (M : Mem) (l : List Tempo) (n : Nat) (r : Value) (M' : Mem) : Prop := ∃ v, r = .tuple #[v, .bool (tempB l)] ∧ (tempB l = true → ∃ A c, v = .slice A n c ∧ Sl fracR M' A n (posAll l)) ∧ Keeps M M'
theorem PosR.no {M M' : Mem} {l : List Tempo} {n : Nat} {v : Value} (hk : Keeps M M') (e : tempB l = false) : PosR M l n (.tuple #[v, .bool false]) M' := by
  refine ⟨v, by rw [e], ?_, hk⟩
  intro h
  rw [e] at h
  cases h
theorem PosR.yes {M M' : Mem} {l : List Tempo} {n : Nat} {A : Option Addr} {c : Nat} (hk : Keeps M M') (e : tempB l = true) (hs : Sl fracR M' A n (posAll l)) : PosR M l n (.tuple #[.slice A n c, .bool true]) M' :=
  ⟨_, by rw [e], fun _ => ⟨A, c, rfl, hs⟩, hk⟩
theorem posK_on {l : List Tempo} {k : Nat} {a : Frac} (hk : 0 < k) (h : posK l (k - 1) = some a) : posK l k = if onOk (el l (k - 1)).beat (el l k).beat (el l (k - 1)).s a = true then some (onY (el l (k - 1)).beat (el l k).beat (el l (k - 1)).s a) else none := by
  obtain ⟨j, rfl⟩ : ∃ j, k = j + 1 := ⟨k - 1, by omega⟩
  simp only [Nat.add_sub_cancel] at h ⊢
  show (posK l j).bind _ = _
  rw [h]
  simp only [Option.bind_some]
  by_cases hc : (onF (el l j).beat (el l (j + 1)).beat (el l j).s a).2 = 0
  · rw [if_pos hc, if_pos (onOk_iff.2 hc), onY_eq hc]
  · rw [if_neg hc, if_neg (fun h => hc (onOk_iff.1 h))]
set_option maxHeartbeats 4000000 in
theorem l17Positions_a {M : Mem} {A : Option Addr} {n c id0 off0 : Nat} {l : List Tempo} (h : Sl tempoR M A n l) (hr : cellAt M id0 off0 = some (.slice A n c)) (hn : n ≤ 1099511627776) :
    Ctr Tryz.prog M.length 111 [.pointer (some ⟨id0, off0, none⟩)] M (PosR M l n) := by
  have hl := h.1
  first | (refine ctr_fn Tryz.func111 rfl Tryz.ntmps111 Tryz.results111 rfl rfl (by simp) ?_) | (refine ctr_fnC Tryz.func111 rfl Tryz.ntmps111 Tryz.results111 rfl (by simp) ?_)
  simp [hr]
  refine awCall_det' (l00In_a _ _ _) (by simp) ?_
  by_cases hin : inB (n : Int) 1 8 = true
  case neg =>
    have e : tempB l = false := tempB_len (by rw [hl]; simpa using hin)
    simp [hin]
    exact PosR.no (Keeps.refl _) e
  have hinb := inB_iff.1 hin
  simp [hin, at_build]
  have hacc : Acc fracR 152 M.length (M ++ [.live ⟨[], true, true, 152, 2⟩, .live ⟨[iv 0, iv 1], true, true, 152, 2⟩]) (.slice (some ⟨M.length, 0, none⟩) 0 0) [] := ⟨_, _, _, rfl, rfl, .inr ⟨M.length, true, rfl, Nat.le_refl _, by simp [cellsL_nil]⟩⟩
  refine awLoop_T (fun m T M' => ∃ (k : Nat) (v : Value) (a : Frac), k + m = n ∧ Same M.length M M' ∧ TP l k a ∧ Acc fracR 152 M.length M' v ((posAll l).take k) ∧ Apart v (M.length + 1) ∧ M'[M.length + 1]? = some (.live ⟨[iv a.n, iv a.d], true, true, 152, 2⟩) ∧ look T 6 = some (iv k) ∧ look T 4 = some v ∧ look T 5 = some (.pointer (some ⟨M.length + 1, 0, none⟩)) ∧ look T 0 = some (.pointer (some ⟨id0, off0, none⟩))) n
    ⟨0, _, ⟨0, 1⟩, by omega, Same.app' _ _ _, ⟨(fun i hi => by omega), (fun h => by omega), (fun i hi => by omega), (fun i hi => by omega), rfl⟩, by simpa using hacc, (fun A n' c' ad e ea => by injection e with e1; subst e1; injection ea with ea; subst ea; show M.length + 1 ≠ M.length; omega), by simp, by simp, by simp, by simp, by simp⟩ ?_
  rintro m T M1 ⟨k, v, a, hm, hsm, hP, hA, hap, hra, t6, t4, t5, t0⟩
  have n1 := hsm.1
  have hK := hsm.keepsA
  have hr1 := cellAt_keeps hK hr
  by_cases hlt : k < n
  · obtain ⟨id, off, rfl, he, hc⟩ := (h.keeps hK).at_ hlt
    have hld := tempo_load hc
    simp (disch := omega) [t6, t4, t5, t0, hr1, hlt, he, hld]
    refine awCall_det' (l02Ok_a (el l k).beat) (by simp; omega) ?_
    by_cases f1 : fracB (el l k).beat = true
    case neg =>
      have e : tempB l = false := tempB_no fun hb => f1 (beatB_iff.1 (tempoB_iff.1 ((tempA_iff.1 (tempB_iff.1 hb).1).2.1 k (by omega))).1).1
      simp [f1]
      exact PosR.no (hK.app _) e
    simp [f1]
    refine awCall_det' (l17Beat_a (el l k).beat f1) (by simp; omega) ?_
    by_cases f2 : beatB (el l k).beat = true
    case neg =>
      have e : tempB l = false := tempB_no fun hb => f2 (tempoB_iff.1 ((tempA_iff.1 (tempB_iff.1 hb).1).2.1 k (by omega))).1
      simp [f2]
      exact PosR.no (hK.app _) e
    simp [f2]
    refine awCall_det' (l00In_a _ _ _) (by simp; omega) ?_
    by_cases f3 : inB (el l k).s 1 1000 = true
    case neg =>
      have e : tempB l = false := tempB_no fun hb => f3 (inB_iff.2 (tempoB_iff.1 ((tempA_iff.1 (tempB_iff.1 hb).1).2.1 k (by omega))).2)
      simp [f3]
      exact PosR.no (hK.app _) e
    have f3b := inB_iff.1 f3
    have htk : tempoB (el l k) = true := tempoB_iff.2 ⟨f2, f3b⟩
    simp [f3]
    -- the first one is at 0
    by_cases hk0 : k = 0
    · subst hk0
      by_cases f4 : (el l 0).bn = 0
      case neg =>
        have e : tempB l = false := tempB_no fun hb => f4 (tempA_iff.1 (tempB_iff.1 hb).1).2.2.1
        simp [t6, f4]
        exact PosR.no (hK.app _) e
      have x0 : ∀ L : Mem, cellsAt (M1 ++ L) (M.length + 1) 0 2 = some [iv a.n, iv a.d] := fun L => cellsAt_app (cells_hrq hra rfl) L
      simp [t6, t4, t5, t0, f4, x0]
      have ea : a = ⟨0, 1⟩ := by have := hP.at_; simp [posK] at this; exact this.symm
      refine Acc.append2 (R := fracR) (e := 152) (by_ := 16) (a := a) (hA.keeps (keeps_app _)) (Nat.le_refl _) (by simp; omega) (by omega) (by simp) (by kernel_rfl) (by simp [srcOf, fracR, Frac.row]) (by rfl) (by simp) (by unfold maxLen; simp) ?_
      intro v' M2 hA2 s2 ap2
      obtain ⟨hra2, hap2⟩ := ap2 (M.length + 1) _ hap (by simp only [St.M_mk]; rw [List.getElem?_append_left (List.getElem?_eq_some_iff.1 hra).1]; exact hra)
      simp (disch := omega) [t6, t4, t5, t0, wrap_in]
      refine lpI (m - 1) (by omega) ⟨1, v', a, by omega, (hsm.tr (Same.app' _ _ _)).tr (by simpa using s2), ⟨(fun i hi => by obtain rfl : i = 0 := (by omega); exact htk), fun _ => f4, (fun i hi h0 => by omega), (fun i hi => by obtain rfl : i = 0 := (by omega); rfl), hP.at_⟩, by rw [posAll_take (by omega) hP.at_]; exact hA2, hap2, hra2, by simp, by simp, by simp [t5], by simp [t0]⟩
    · have hk0' : ¬ (k : Int) = 0 := by omega
      have hkp : 0 < k := by omega
      have hkp' : (0 : Int) < k := by omega
      have hr2 := fun L => cellAt_app hr1 L
      have he2 : ∀ L : Mem, rowEsz (M1 ++ L) id = some 3 := fun L => rowEsz_keeps (keeps_app L) he
      obtain ⟨_, _, ee, -, hcp⟩ := (h.keeps hK).at_ (show k - 1 < n by omega)
      cases ee
      have hldp := fun L => cellsAt_app (tempo_load hcp) L
      have et : ((k : Int) - 1).toNat = k - 1 := by omega
      simp (disch := omega) [t6, t4, t5, t0, hk0, hk0', hkp, hkp', hr2, he2, hldp, et, wrap_in]
      refine ⟨by omega, ?_⟩
      have hbk : fracB (el l (k - 1)).beat = true := (beatB_iff.1 (tempoB_iff.1 (hP.tempo (k - 1) (by omega))).1).1
      refine awCall_det' (compare_s (el l (k - 1)).beat (el l k).beat hbk f1) (by simp; omega) ?_
      by_cases f4 : cmpF (el l (k - 1)).beat (el l k).beat < 0
      case neg =>
        have e : tempB l = false := tempB_no fun hb => f4 ((tempA_iff.1 (tempB_iff.1 hb).1).2.2.2 k (by omega) hkp)
        have f4' : 0 ≤ cmpF (el l (k - 1)).beat (el l k).beat := by omega
        simp [f4, f4']
        exact PosR.no (hK.app _) e
      have f4' : ¬ 0 ≤ cmpF (el l (k - 1)).beat (el l k).beat := by omega
      have x0 : ∀ L : Mem, cellsAt (M1 ++ L) (M.length + 1) 0 2 = some [iv a.n, iv a.d] := fun L => cellsAt_app (cells_hrq hra rfl) L
      simp (disch := omega) [t6, t4, t5, t0, f4, f4', x0, wrap_in]
      have hon := posK_on hkp hP.at_
      refine awCall_det' (l17On_a (el l (k - 1)).beat (el l k).beat a (el l (k - 1)).s) (by simp; omega) ?_
      generalize onY (el l (k - 1)).beat (el l k).beat (el l (k - 1)).s a = a2 at hon ⊢
      by_cases f5 : onOk (el l (k - 1)).beat (el l k).beat (el l (k - 1)).s a = true
      case neg =>
        rw [if_neg f5] at hon
        have e : tempB l = false := tempB_no fun hb => by have := (tempB_iff.1 hb).2 k (by omega); rw [hon] at this; cases this
        simp (disch := omega) [f5]
        exact PosR.no (hK.app _) e
      rw [if_pos f5] at hon
      have hra' : ∀ L : Mem, (M1 ++ L)[M.length + 1]? = some (.live ⟨[iv a.n, iv a.d], true, true, 152, 2⟩) := fun L => by rw [List.getElem?_append_left (List.getElem?_eq_some_iff.1 hra).1]; exact hra
      simp (disch := omega) [t6, t4, t5, t0, f5, wrap_in]
      rw [put_whole (hra' _) (by omega) (by simp) (by simp)]
      simp only [ow_some]
      have hlen1 : M.length + 1 < M1.length := (List.getElem?_eq_some_iff.1 hra).1
      generalize hM2 : (M1 ++ _ : Mem) = M2
      have hS2 : Same M.length M1 M2 := by rw [← hM2]; exact Same.app' _ _ _
      have hA2 : Acc fracR 152 M.length M2 v ((posAll l).take k) := by rw [← hM2]; exact hA.keeps (keeps_app _)
      have hlen2 : M1.length ≤ M2.length := hS2.1
      have hr2 : (M2.set (M.length + 1) (.live ⟨[iv a2.n, iv a2.d], true, true, 152, 2⟩))[M.length + 1]? = some (.live ⟨[iv a2.n, iv a2.d], true, true, 152, 2⟩) := by rw [List.getElem?_set_self (by omega)]
      have hA3 := hA2.set_apart (s := .live ⟨[iv a2.n, iv a2.d], true, true, 152, 2⟩) hap
      have hS3 : Same M.length M1 (M2.set (M.length + 1) (.live ⟨[iv a2.n, iv a2.d], true, true, 152, 2⟩)) := hS2.tr (Same.setb (by omega))
      generalize M2.set (M.length + 1) (.live ⟨[iv a2.n, iv a2.d], true, true, 152, 2⟩) = M3 at hr2 hA3 hS3 ⊢
      have hc3 : cellsAt M3 (M.length + 1) 0 2 = some [iv a2.n, iv a2.d] := cells_hrq hr2 rfl
      simp (disch := omega) [t6, t4, t5, t0, hc3, wrap_in]
      have hlen3 := hS3.1
      refine Acc.append2 (R := fracR) (e := 152) (by_ := 16) (a := a2) (hA3.keeps (keeps_app _)) (Nat.le_refl _) (by simp; omega) (by omega) (by simp) (by kernel_rfl) (by simp [srcOf, fracR, Frac.row]) (by rfl) (by simp; omega) (by unfold maxLen; simp; omega) ?_
      intro v' M4 hA4 s4 ap4
      obtain ⟨hra4, hap4⟩ := ap4 (M.length + 1) _ hap (by simp only [St.M_mk]; rw [List.getElem?_append_left (List.getElem?_eq_some_iff.1 hr2).1]; exact hr2)
      refine lpI (m - 1) (by omega) ⟨k + 1, v', a2, by omega, ((hsm.tr hS3).tr (Same.app' _ _ _)).tr (by simpa using s4), ⟨?_, (fun _ => hP.first hkp), ?_, ?_, by rw [Nat.add_sub_cancel]; exact hon⟩, by rw [posAll_take (by omega) hon]; exact hA4, hap4, hra4, by simp, by simp, by simp [t5], by simp [t0]⟩
      · intro i hi
        by_cases hik : i = k
        · rw [hik]; exact htk
        · exact hP.tempo i (by omega)
      · intro i hi h0
        by_cases hik : i = k
        · rw [hik]; exact f4
        · exact hP.sort i (by omega) h0
      · intro i hi
        by_cases hik : i = k
        · rw [hik, hon]; rfl
        · exact hP.pos i (by omega)
  · obtain rfl : k = n := by omega
    simp [t6, t4, t0, hr1]
    rw [List.take_of_length_le (by rw [posAll_len]; omega)] at hA
    obtain ⟨A', q, c', rfl, hq, hsl, -⟩ := hA.sl
    rw [posAll_len] at hq
    obtain rfl : q = k := by omega
    have e : tempB l = true := TP.done (by rw [hl]; exact hP) (by rw [hl]; exact hin)
    exact PosR.yes hK e hsl
end Go.Proofs.YtimijeeihicohaaGreat

namespace Go.Proofs.YtimijeeihicohaaGreat
open Go.RowKit
set_option linter.unusedVariables false
set_option linter.unusedSimpArgs false
set_option maxRecDepth 100000
attribute [local simp] List.getElem?_cons_zero
attribute [local irreducible] awCond awCall awLoop awDraw ow retQ retC resQ Keeps
def askC (l : List Tempo) (b : Frac) : Int := if tempB l = true ∧ fracB b = true then (if beatB b = true then 0 else 2) else 1
def posB (l : List Tempo) (b : Frac) : Frac × Int :=
  if askC l b = 0 then
    if (onF (el l (idxT l b l.length)).beat b (el l (idxT l b l.length)).s (el (posAll l) (idxT l b l.length))).2 = 0 then
      (onF (el l (idxT l b l.length)).beat b (el l (idxT l b l.length)).s (el (posAll l) (idxT l b l.length))) else (⟨0, 0⟩, 2)
  else (⟨0, 0⟩, askC l b)
def sampB (l : List Tempo) (b : Frac) : Int × Int := if (posB l b).2 = 0 then ((posB l b).1.n / (posB l b).1.d, 0) else (0, (posB l b).2)
theorem askC_zero {l : List Tempo} {b : Frac} : askC l b = 0 ↔ tempB l = true ∧ beatB b = true := by
  unfold askC
  constructor
  · intro h
    by_cases h1 : tempB l = true ∧ fracB b = true
    · rw [if_pos h1] at h
      by_cases h2 : beatB b = true
      · exact ⟨h1.1, h2⟩
      · rw [if_neg h2] at h; omega
    · rw [if_neg h1] at h; omega
  · rintro ⟨h1, h2⟩
    rw [if_pos ⟨h1, (beatB_iff.1 h2).1⟩, if_pos h2]
theorem posB_ok {l : List Tempo} {b : Frac} (h : (posB l b).2 = 0) : fracB (posB l b).1 = true := by
  unfold posB at h ⊢
  by_cases h1 : askC l b = 0
  · rw [if_pos h1] at h ⊢
    generalize hx : onF (el l (idxT l b l.length)).beat b (el l (idxT l b l.length)).s (el (posAll l) (idxT l b l.length)) = x at h ⊢
    by_cases h2 : x.2 = 0
    · rw [if_pos h2]
      rw [← hx] at h2 ⊢
      exact onF_ok h2
    · rw [if_neg h2] at h
      cases h
  · rw [if_neg h1] at h
    exact absurd h h1
theorem l17Ok_a {M : Mem} {A : Option Addr} {n c id0 off0 : Nat} {l : List Tempo} (h : Sl tempoR M A n l) (hr : cellAt M id0 off0 = some (.slice A n c)) (hn : n ≤ 1099511627776) :
    Det Tryz.prog M.length 61 [.pointer (some ⟨id0, off0, none⟩)] M (.bool (tempB l)) M := by
  refine Ctr.pure ?_ rfl
  first | (refine ctr_fn Tryz.func61 rfl Tryz.ntmps61 Tryz.results61 rfl rfl (by simp) ?_) | (refine ctr_fnC Tryz.func61 rfl Tryz.ntmps61 Tryz.results61 rfl (by simp) ?_)
  simp
  refine awCall_ctr (l17Positions_a h hr hn) ?_
  rintro _ M' ⟨v, rfl, -, hk⟩
  simp [hk]
theorem l17Ask_a {M : Mem} {A : Option Addr} {n c id0 off0 : Nat} {l : List Tempo} {b : Frac} (h : Sl tempoR M A n l) (hr : cellAt M id0 off0 = some (.slice A n c)) (hn : n ≤ 1099511627776) :
    Det Tryz.prog M.length 206 [.pointer (some ⟨id0, off0, none⟩), b.v] M (iv (askC l b)) M := by
  first | (refine det_fn Tryz.func206 rfl Tryz.ntmps206 Tryz.results206 rfl rfl rfl (by simp) ?_) | (refine det_fnC Tryz.func206 rfl Tryz.ntmps206 Tryz.results206 rfl rfl (by simp) ?_)
  simp
  refine awCall_det' (l17Ok_a (h.app _) (cellAt_app hr _) hn) (by simp) ?_
  by_cases h1 : tempB l = true
  · simp [h1]
    refine awCall_det' (l02Ok_a b) (by simp) ?_
    by_cases h2 : fracB b = true
    · simp [h2]
      refine awCall_det' (l17Beat_a b h2) (by simp) ?_
      by_cases h3 : beatB b = true
      · simp [askC, h1, h2, h3, keeps_app]
      · simp [askC, h1, h2, h3, keeps_app]
    · simp [askC, h1, h2, keeps_app]
  · simp [askC, h1, keeps_app]
theorem l17Index_a {M : Mem} {A : Option Addr} {n c id0 off0 : Nat} {l : List Tempo} {b : Frac} (h : Sl tempoR M A n l) (hr : cellAt M id0 off0 = some (.slice A n c)) (hn : n ≤ 1099511627776) (hb : fracB b = true) (ha : ∀ i, i < l.length → fracB (el l i).beat = true) :
    Det Tryz.prog M.length 207 [.pointer (some ⟨id0, off0, none⟩), b.v] M (iv (idxT l b l.length)) M := by
  have hl := h.1
  first | (refine det_fn Tryz.func207 rfl Tryz.ntmps207 Tryz.results207 rfl rfl rfl (by simp) ?_) | (refine det_fnC Tryz.func207 rfl Tryz.ntmps207 Tryz.results207 rfl rfl (by simp) ?_)
  simp
  refine awLoop_T (fun m T M' => ∃ k : Nat, k + m = n ∧ M' = M ++ [.live ⟨[iv b.n, iv b.d], true, true, 152, 2⟩] ∧ look T 6 = some (iv k) ∧ look T 5 = some (iv (idxT l b k)) ∧ look T 3 = some (.pointer (some ⟨M.length, 0, none⟩)) ∧ look T 0 = some (.pointer (some ⟨id0, off0, none⟩))) n ⟨0, by omega, rfl, by simp, by simp [idxT], by simp, by simp⟩ ?_
  rintro m T M' ⟨k, hm, rfl, t6, t5, t3, t0⟩
  have hr1 := fun L => cellAt_app hr L
  by_cases hlt : k < n
  · obtain ⟨id, off, rfl, he, hc⟩ := h.at_ hlt
    have he1 := fun L : Mem => rowEsz_keeps (keeps_app (M := M) L) he
    have hld := fun L => cellsAt_app (tempo_cellsN hc) L
    simp (disch := omega) [t6, t5, t3, t0, hr1, hlt]
    refine awDraw_E 9 [[],[0],[1,0],[2,1,0],[],[3,2,1,0,4],[5,3,2,1,0,4],[6,5,3,2,1,0,4],[],[7,6,5,3,2,1,0,4,8],[9,7,6,5,3,2,1,0,4,8]] (by kernel_rfl) (by kernel_rfl) ?_
    simp (disch := omega) [t6, t5, t3, t0, hr1, hlt, he1, hld]
    refine awCall_det' (compare_s (el l k).beat b (ha k (by omega)) hb) (by simp) ?_
    have hx : idxT l b (k + 1) = if cmpF (el l k).beat b ≤ 0 then k else idxT l b k := rfl
    by_cases h1 : cmpF (el l k).beat b ≤ 0
    · rw [if_pos h1] at hx
      simp (disch := omega) [h1, t6, wrap_in]
      exact lpI (m - 1) (by omega) ⟨k + 1, by omega, rfl, by simp, by simp [hx], by simp [t3], by simp [t0]⟩
    · rw [if_neg h1] at hx
      simp (disch := omega) [h1, t6, wrap_in]
      exact lpI (m - 1) (by omega) ⟨k + 1, by omega, rfl, by simp, by simp [hx, t5], by simp [t3], by simp [t0]⟩
  · obtain rfl : k = n := by omega
    simp [t6, t5, t3, t0, hr1, hl, keeps_app]
/-- A value is stored in a whole box and loaded again at the return. -/
theorem ret_box {M M1 L : Mem} {b g : Nat} {cs vs : List Value} {t : Bool} {e : TypeId} {z n : Nat} {w : Value} (hg : M1[g]? = some (.live ⟨cs, true, t, e, z⟩)) (hk : Keeps M M1) (hb : M.length ≤ g) (hl : vs.length = cs.length) (hn : n = cs.length) (hw : Value.agg vs.toArray = w ∧ True) (h1 : vs.all oneV = true := by simp) (hbb : b ≤ g := by omega) :
    ow (putCells b (M1 ++ L) g 0 vs) fun M' => ow (cellsAt M' g 0 n) fun cs => Value.agg cs.toArray = w ∧ Keeps M M' := by
  have hlt := (List.getElem?_eq_some_iff.1 hg).1
  have hg' : (M1 ++ L)[g]? = some (.live ⟨cs, true, t, e, z⟩) := by rw [List.getElem?_append_left hlt]; exact hg
  rw [put_whole hg' hbb hl h1, ow_some, cells_hrq (List.getElem?_set_self (by rw [List.length_append]; omega)) (by rw [hn]; exact hl.symm), ow_some]
  exact ⟨hw.1, keeps_set (hk.app _) hb⟩
set_option maxHeartbeats 2000000 in
theorem PositionOfBeat_s {M : Mem} {A : Option Addr} {n c : Nat} {l : List Tempo} (b : Frac) (h : Sl tempoR M A n l) (hn : n ≤ 1099511627776) :
    Det Tryz.prog M.length 168 [.agg #[.slice A n c], b.v] M (.tuple #[(posB l b).1.v, iv (posB l b).2]) M := by
  have hl := h.1
  refine Ctr.pure ?_ rfl
  first | (refine ctr_fn Tryz.func168 rfl Tryz.ntmps168 Tryz.results168 rfl rfl (by simp) ?_) | (refine ctr_fnC Tryz.func168 rfl Tryz.ntmps168 Tryz.results168 rfl (by simp) ?_)
  simp
  refine awCall_det' (l17Ask_a (c := c) (h.app _) (by simp) hn) (by simp) ?_
  by_cases h0 : askC l b = 0
  case neg =>
    have e : posB l b = (⟨0, 0⟩, askC l b) := by unfold posB; rw [if_neg h0]
    simp [h0, e, keeps_app]
  obtain ⟨hT, hB⟩ := askC_zero.1 h0
  obtain ⟨⟨l1, l2⟩, ha, -, -⟩ := tempA_iff.1 (tempB_iff.1 hT).1
  have hlt : idxT l b l.length < l.length := idx_le _ (by omega)
  have hfr : ∀ i, i < l.length → fracB (el l i).beat = true := fun i hi => (beatB_iff.1 (tempoB_iff.1 (ha i hi)).1).1
  simp [h0]
  refine awCall_ctr ((l17Positions_a (c := c) (id0 := M.length) (off0 := 0) (h.app _) (by simp) hn).weaken (by simp)) ?_
  rintro _ M1 ⟨v, rfl, hv, hk⟩
  obtain ⟨A2, c2, rfl, hs2⟩ := hv hT
  have hkM : Keeps M M1 := (keeps_app _).trans hk
  have hS1 := h.keeps hkM
  have hr1 : cellAt M1 M.length 0 = some (.slice A n c) := cellAt_keeps hk (by simp)
  have hb1 : cellsAt M1 (M.length + 1) 0 2 = some [iv b.n, iv b.d] := cellsAt_keeps hk (by simp)
  have hg1 : M1[M.length + 2]? = some (.live ⟨[iv 0, iv 0], true, true, 152, 2⟩) := hk.get (by simp)
  have hlen := (List.getElem?_eq_some_iff.1 hg1).1
  obtain ⟨k, hk'⟩ : ∃ k, k = idxT l b l.length := ⟨_, rfl⟩
  rw [← hk'] at hlt
  obtain ⟨id, off, rfl, he, hc⟩ := hS1.at_ (show k < n by omega)
  obtain ⟨id2, off2, rfl, he2, hc2⟩ := hs2.at_ (show k < n by omega)
  have hld := tempo_cellsN hc
  obtain ⟨-, -, hcs⟩ := tempo_cells hc
  have hlp := frac_load hc2
  simp (disch := omega) [hT, hb1, hr1]
  refine awCall_det' (l17Index_a (b := b) hS1 hr1 hn (beatB_iff.1 hB).1 hfr) (by omega) ?_
  rw [← hk']
  refine awDraw_M 22 [[],[0],[],[1,0,2],[3,1,0,2],[4,3,1,0,2],[],[],[7],[],[8,7,9],[10,8,7,9],[11,10,8,7,9],[],[],[13,14],[15,13,14],[5,4,3,1,0,2,6,12,11,10,8,7,9,16,15,13,14],[17,5,4,3,1,0,2,6,12,11,10,8,7,9,16,15,13,14],[18,17,5,4,3,1,0,2,6,12,11,10,8,7,9,16,15,13,14],[18,17,5,4,3,1,0,2,6,12,11,10,8,7,9,16,15,13,14],[],[21,19,18,17,5,4,3,1,0,2,6,12,11,10,8,7,9,16,15,13,14],[20,18,17,5,4,3,1,0,2,6,12,11,10,8,7,9,16,15,13,14,22,21,19]] [20] (by kernel_rfl) (by decide +kernel) (by decide +kernel) ?_
  have hkn : k < n := by omega
  simp (disch := omega) [hr1, hb1, he, he2, hcs, hld, hlp, hkn]
  refine awCall_det' (l17On_a (el l k).beat b (el (posAll l) k) (el l k).s) (by omega) ?_
  have hon := @onOk_iff (el l k).beat b (el (posAll l) k) (el l k).s
  by_cases h5 : onOk (el l k).beat b (el l k).s (el (posAll l) k) = true
  case neg =>
    have e : posB l b = (⟨0, 0⟩, 2) := by unfold posB; rw [if_pos h0, ← hk', if_neg (fun h => h5 (hon.2 h))]
    simp (disch := omega) [h5, e]
    exact ret_box hg1 hkM (by omega) rfl rfl ⟨rfl, trivial⟩
  have e : posB l b = (onY (el l k).beat b (el l k).s (el (posAll l) k), 0) := by
    unfold posB
    rw [if_pos h0, ← hk', if_pos (hon.1 h5), onY_eq (hon.1 h5)]
    exact Prod.ext rfl (hon.1 h5)
  simp (disch := omega) [h5, e]
  exact ret_box hg1 hkM (by omega) rfl rfl ⟨rfl, trivial⟩
theorem SampleOfBeat_s {M : Mem} {A : Option Addr} {n c : Nat} {l : List Tempo} (b : Frac) (h : Sl tempoR M A n l) (hn : n ≤ 1099511627776) :
    Det Tryz.prog M.length 113 [.agg #[.slice A n c], b.v] M (.tuple #[iv (sampB l b).1, iv (sampB l b).2]) M := by
  first | (refine det_fn Tryz.func113 rfl Tryz.ntmps113 Tryz.results113 rfl rfl rfl (by simp) ?_) | (refine det_fnC Tryz.func113 rfl Tryz.ntmps113 Tryz.results113 rfl rfl (by simp) ?_)
  simp
  refine awCall_det' (PositionOfBeat_s (c := c) b (h.app _) hn) (by simp) ?_
  by_cases h0 : (posB l b).2 = 0
  · have hf := fracB_iff.1 (posB_ok h0)
    simp (disch := omega) [h0]
    refine awCall_det' (floorDiv_s (posB l b).1.n (posB l b).1.d (by omega) (by omega) (by omega)) (by simp) ?_
    simp [sampB, h0, keeps_app]
  · simp [h0, sampB, keeps_app]
end Go.Proofs.YtimijeeihicohaaGreat

namespace Go.Proofs.YtimijeeihicohaaGreat
open Go.RowKit
set_option linter.unusedVariables false
set_option linter.unusedSimpArgs false
set_option maxRecDepth 100000
attribute [local simp] List.getElem?_cons_zero
attribute [local irreducible] awCond awCall awLoop awDraw ow retQ retC resQ Keeps
theorem idx_spec {l : List Tempo} {b : Frac} (h0 : cmpF (el l 0).beat b ≤ 0) : ∀ n, 0 < n → idxT l b n < n ∧ cmpF (el l (idxT l b n)).beat b ≤ 0 ∧ ∀ i, idxT l b n < i → i < n → ¬ cmpF (el l i).beat b ≤ 0
  | 0, h => by omega
  | n + 1, _ => by
    have e : idxT l b (n + 1) = if cmpF (el l n).beat b ≤ 0 then n else idxT l b n := rfl
    by_cases hc : cmpF (el l n).beat b ≤ 0
    · rw [if_pos hc] at e
      rw [e]
      exact ⟨by omega, hc, fun i h1 h2 => by omega⟩
    · rw [if_neg hc] at e
      rcases Nat.eq_zero_or_pos n with hn | hn
      · subst hn
        exact absurd h0 hc
      · obtain ⟨a1, a2, a3⟩ := idx_spec h0 n hn
        rw [e]
        refine ⟨by omega, a2, fun i h1 h2 => ?_⟩
        by_cases hi : i = n
        · rw [hi]; exact hc
        · exact a3 i h1 (by omega)
/-- A valid map, in rational numbers. -/
structure MapQ (l : List Tempo) : Prop where
  pos : 0 < l.length
  frac : ∀ i, i < l.length → fracB (el l i).beat = true
  zero : (el l 0).beat.q = 0
  sam : ∀ i, i < l.length → 1 ≤ (el l i).s ∧ (el l i).s ≤ 1000
  inc : ∀ i, i + 1 < l.length → (el l i).beat.q ≤ (el l (i + 1)).beat.q
  has : ∀ i, i < l.length → ∃ a, posK l i = some a
theorem q_zero {f : Frac} (h : f.n = 0) : f.q = 0 := by
  unfold Frac.q
  rw [h, Rat.zero_divInt]
theorem mapQ {l : List Tempo} (h : tempB l = true) : MapQ l := by
  obtain ⟨hA, hP⟩ := tempB_iff.1 h
  obtain ⟨⟨l1, l2⟩, ha, h0, hs⟩ := tempA_iff.1 hA
  have hf : ∀ i, i < l.length → fracB (el l i).beat = true := fun i hi => (beatB_iff.1 (tempoB_iff.1 (ha i hi)).1).1
  refine ⟨by omega, hf, q_zero h0, fun i hi => (tempoB_iff.1 (ha i hi)).2, fun i hi => ?_, fun i hi => Option.isSome_iff_exists.1 (hP i hi)⟩
  have := hs (i + 1) hi (by omega)
  rw [Nat.add_sub_cancel] at this
  exact (cmpF_q (fracB_iff.1 (hf i (by omega))).1.1 (fracB_iff.1 (hf _ hi)).1.1).1 (by omega)
theorem MapQ.step {l : List Tempo} (h : MapQ l) {i : Nat} (hi : i + 1 < l.length) {a a' : Frac} (ha : posK l i = some a) (ha' : posK l (i + 1) = some a') : a'.q = a.q + ((el l (i + 1)).beat.q - (el l i).beat.q) * (el l i).s := by
  have hs := posK_succ ha
  rw [ha'] at hs
  split at hs
  · rename_i hc
    injection hs with hs
    rw [hs]
    exact onF_q (h.frac i (by omega)) (h.frac _ hi) (posK_ok l ha) (h.sam i (by omega)) hc
  · cases hs
theorem s_pos {s : Int} (h : 1 ≤ s) : (0 : Rat) ≤ (s : Rat) := by
  have : ((0 : Int) : Rat) ≤ (s : Rat) := Rat.intCast_le_intCast.2 (by omega)
  simpa using this
theorem MapQ.grow {l : List Tempo} (h : MapQ l) {i : Nat} {a : Frac} (ha : posK l i = some a) : ∀ (d : Nat) {a' : Frac}, i + d < l.length → posK l (i + d) = some a' → a.q ≤ a'.q
  | 0, a', _, ha' => by
    rw [Nat.add_zero, ha] at ha'
    injection ha' with e
    rw [e]
    exact Rat.le_refl
  | d + 1, a', hd, ha' => by
    obtain ⟨c, hc⟩ := h.has (i + d) (by omega)
    have h1 := h.grow ha d (by omega) hc
    have h2 := h.step (i := i + d) hd hc ha'
    have h3 := h.inc (i + d) hd
    have h4 : (0 : Rat) ≤ ((el l (i + d + 1)).beat.q - (el l (i + d)).beat.q) * (el l (i + d)).s := Rat.mul_nonneg (by grind) (s_pos (h.sam (i + d) (by omega)).1)
    grind
/-- What a position is. -/
theorem posB_at {l : List Tempo} {b : Frac} (h : (posB l b).2 = 0) : MapQ l ∧ fracB b = true ∧ ∃ a, posK l (idxT l b l.length) = some a ∧ idxT l b l.length < l.length ∧ (el l (idxT l b l.length)).beat.q ≤ b.q ∧ (∀ i, idxT l b l.length < i → i < l.length → ¬ (el l i).beat.q ≤ b.q) ∧
    (posB l b).1.q = a.q + (b.q - (el l (idxT l b l.length)).beat.q) * (el l (idxT l b l.length)).s := by
  have hA : askC l b = 0 := by
    rcases Decidable.em (askC l b = 0) with h' | h'
    · exact h'
    · unfold posB at h
      rw [if_neg h'] at h
      exact absurd h h'
  obtain ⟨hT, hB⟩ := askC_zero.1 hA
  have hm := mapQ hT
  obtain ⟨hbf, hb0, -⟩ := beatB_iff.1 hB
  have hbd := (fracB_iff.1 hbf).1.1
  have h00 : cmpF (el l 0).beat b ≤ 0 := by
    rw [cmpF_q (fracB_iff.1 (hm.frac 0 hm.pos)).1.1 hbd, hm.zero]
    exact (Rat.divInt_nonneg_iff_of_pos_right (by omega)).2 hb0
  obtain ⟨i1, i2, i3⟩ := idx_spec h00 l.length hm.pos
  obtain ⟨a, ha⟩ := hm.has _ i1
  refine ⟨hm, hbf, a, ha, i1, ?_, fun i h1 h2 => ?_, ?_⟩
  · exact (cmpF_q (fracB_iff.1 (hm.frac _ i1)).1.1 hbd).1 i2
  · have := i3 i h1 h2
    rwa [cmpF_q (fracB_iff.1 (hm.frac i h2)).1.1 hbd] at this
  · unfold posB at h ⊢
    rw [if_pos hA, posAll_el i1 ha] at h ⊢
    split at h
    · rename_i hc
      rw [if_pos hc]
      exact onF_q (hm.frac _ i1) hbf (posK_ok l ha) (hm.sam _ i1) hc
    · cases h
theorem posB_mono {l : List Tempo} {b b' : Frac} (h : (posB l b).2 = 0) (h' : (posB l b').2 = 0) (hq : b.q ≤ b'.q) : (posB l b).1.q ≤ (posB l b').1.q := by
  obtain ⟨hm, hbf, a, ha, i1, i2, i3, e⟩ := posB_at h
  obtain ⟨-, hbf', a', ha', j1, j2, j3, e'⟩ := posB_at h'
  rw [e, e']
  generalize idxT l b l.length = k at *
  generalize idxT l b' l.length = k' at *
  have hs := s_pos (hm.sam k i1).1
  have hs' := s_pos (hm.sam k' j1).1
  by_cases hk : k' = k
  · subst hk
    rw [ha] at ha'
    injection ha' with ea
    rw [← ea]
    have := Rat.mul_le_mul_of_nonneg_right (show b.q - (el l k').beat.q ≤ b'.q - (el l k').beat.q by grind) hs
    grind
  · have hk2 : k < k' := by
      rcases Nat.lt_or_ge k k' with h | h
      · exact h
      · exfalso
        have := j3 k (by omega) i1
        grind
    obtain ⟨c, hc⟩ := hm.has (k + 1) (by omega)
    have h1 := hm.step (by omega) ha hc
    have h2' := i3 (k + 1) (by omega) (by omega)
    have h2 : b.q ≤ (el l (k + 1)).beat.q := by grind
    have h3 := Rat.mul_le_mul_of_nonneg_right (show b.q - (el l k).beat.q ≤ (el l (k + 1)).beat.q - (el l k).beat.q by grind) hs
    have h4 := hm.grow hc (k' - (k + 1)) (a' := a') (by omega) (by rw [show k + 1 + (k' - (k + 1)) = k' by omega]; exact ha')
    have h5 : (0 : Rat) ≤ (b'.q - (el l k').beat.q) * (el l k').s := Rat.mul_nonneg (by grind) hs'
    grind
theorem sampB_mono {l : List Tempo} {b b' : Frac} (h : (sampB l b).2 = 0) (h' : (sampB l b').2 = 0) (hq : b.q ≤ b'.q) : (sampB l b).1 ≤ (sampB l b').1 := by
  have ok : ∀ x, (sampB l x).2 = 0 → (posB l x).2 = 0 ∧ (sampB l x).1 = (posB l x).1.q.floor := by
    intro x hx
    unfold sampB at hx ⊢
    by_cases hc : (posB l x).2 = 0
    · rw [if_pos hc]
      exact ⟨hc, (floor_q (by have := (fracB_iff.1 (posB_ok hc)).1; omega)).symm⟩
    · rw [if_neg hc] at hx
      exact absurd hx hc
  obtain ⟨o1, e1⟩ := ok b h
  obtain ⟨o2, e2⟩ := ok b' h'
  rw [e1, e2]
  exact Rat.floor_monotone (posB_mono o1 o2 hq)
theorem sampB_pos {l : List Tempo} {b : Frac} (h : (sampB l b).2 = 0) : 0 ≤ (sampB l b).1 := by
  unfold sampB at h ⊢
  by_cases hc : (posB l b).2 = 0
  · rw [if_pos hc]
    obtain ⟨hm, hbf, a, ha, i1, i2, -, e⟩ := posB_at hc
    have h0 : posK l 0 = some ⟨0, 1⟩ := rfl
    have h1 := hm.grow h0 (idxT l b l.length) (a' := a) (by omega) (by rw [Nat.zero_add]; exact ha)
    rw [q_zero rfl] at h1
    have h2 : (0 : Rat) ≤ (b.q - (el l (idxT l b l.length)).beat.q) * (el l (idxT l b l.length)).s := Rat.mul_nonneg (by grind) (s_pos (hm.sam _ i1).1)
    have hd := (fracB_iff.1 (posB_ok hc)).1.1
    have h3 : (0 : Rat) ≤ (posB l b).1.q := by grind
    have h4 := (Rat.divInt_nonneg_iff_of_pos_right (a := (posB l b).1.n) (show 0 < (posB l b).1.d by omega)).1 h3
    exact Int.ediv_nonneg h4 (by omega)
  · rw [if_neg hc]
    exact Int.le_refl 0
end Go.Proofs.YtimijeeihicohaaGreat

namespace Go.Proofs.YtimijeeihicohaaGreat
open Go.RowKit
set_option linter.unusedVariables false
set_option linter.unusedSimpArgs false
set_option maxRecDepth 100000
attribute [local simp] List.getElem?_cons_zero
attribute [local irreducible] awCond awCall awLoop awDraw ow retQ retC resQ Keeps
theorem onF_steps {frm beat at_ : Frac} {s : Int} (h1 : (subF beat frm).2 = 0) : onF frm beat s at_ = if (mulF (subF beat frm).1 ⟨s, 1⟩).2 = 0 then addF at_ (mulF (subF beat frm).1 ⟨s, 1⟩).1 else (at_, (mulF (subF beat frm).1 ⟨s, 1⟩).2) := by
  unfold onF
  rw [if_neg (by omega)]
  split
  · rename_i h; simp [h]
  · rename_i h; rw [if_pos (by omega)]
theorem onF_no {frm beat at_ : Frac} {s : Int} (h1 : (subF beat frm).2 ≠ 0) : onF frm beat s at_ = (at_, (subF beat frm).2) := by
  unfold onF
  rw [if_pos h1]
structure Pos (M M' : Mem) (A : Option Addr) (n c : Nat) (b a : Frac) : Prop where
  keeps : Keeps M M'
  r0 : cellAt M' M.length 0 = some (.slice A n c)
  r1 : cellsAt M' (M.length + 1) 0 2 = some [iv b.n, iv b.d]
  g2 : M'[M.length + 2]? = some (.live ⟨[iv 0, iv 0], true, true, 152, 2⟩)
  g3 : M'[M.length + 3]? = some (.live ⟨[iv a.n, iv a.d], true, true, 152, 2⟩)
theorem Pos.app {M M' : Mem} {A : Option Addr} {n c : Nat} {b a : Frac} (h : Pos M M' A n c b a) (L : Mem) : Pos M (M' ++ L) A n c b a :=
  ⟨h.keeps.app _, cellAt_app h.r0 L, cellsAt_app h.r1 L, by rw [List.getElem?_append_left (List.getElem?_eq_some_iff.1 h.g2).1]; exact h.g2, by rw [List.getElem?_append_left (List.getElem?_eq_some_iff.1 h.g3).1]; exact h.g3⟩
theorem Pos.upd {M M' : Mem} {A : Option Addr} {n c : Nat} {b a : Frac} (h : Pos M M' A n c b a) (w : Frac) : Pos M (M'.set (M.length + 3) (.live ⟨[iv w.n, iv w.d], true, true, 152, 2⟩)) A n c b w := by
  have hlt := (List.getElem?_eq_some_iff.1 h.g3).1
  refine ⟨keeps_set h.keeps (by omega), ?_, ?_, ?_, List.getElem?_set_self hlt⟩
  · have := h.r0
    unfold cellAt at this ⊢
    rw [List.getElem?_set_ne (by omega)]
    exact this
  · have := h.r1
    unfold cellsAt at this ⊢
    rw [List.getElem?_set_ne (by omega)]
    exact this
  · rw [List.getElem?_set_ne (by omega)]
    exact h.g2
theorem Pos.put {M M' : Mem} {A : Option Addr} {n c b0 : Nat} {b a : Frac} (h : Pos M M' A n c b a) (hb : b0 = M.length) (w : Frac) : putCells b0 M' (M.length + 3) 0 [iv w.n, iv w.d] = some (M'.set (M.length + 3) (.live ⟨[iv w.n, iv w.d], true, true, 152, 2⟩)) := by
  subst hb
  exact put_whole h.g3 (by omega) rfl (by simp)
theorem Pos.ld {M M' : Mem} {A : Option Addr} {n c : Nat} {b a : Frac} (h : Pos M M' A n c b a) : cellsAt M' (M.length + 3) 0 2 = some [iv a.n, iv a.d] := cells_hrq h.g3 rfl
theorem Pos.ret {M M' : Mem} {A : Option Addr} {n c : Nat} {b a w : Frac} (h : Pos M M' A n c b a) :
    ow (putCells M.length M' (M.length + 2) 0 [iv w.n, iv w.d]) fun M'' => ow (cellsAt M'' (M.length + 2) 0 2) fun cs => Value.agg cs.toArray = w.v ∧ Keeps M M'' := by
  have := ret_box (L := []) (w := w.v) (vs := [iv w.n, iv w.d]) (n := 2) (b := M.length) h.g2 h.keeps (by omega) rfl rfl ⟨rfl, trivial⟩
  rw [List.append_nil] at this
  exact this
set_option maxHeartbeats 4000000 in
theorem position_i {M : Mem} {A : Option Addr} {n c : Nat} {l : List Tempo} (b : Frac) (h : Sl tempoR M A n l) (hn : n ≤ 1099511627776) (hb : fracB b = true) (hf : ∀ i, i < l.length → fracB (el l i).beat = true) :
    Det Tryz.prog M.length 125 [.agg #[.slice A n c], b.v] M (.tuple #[(goF l b l.length 0 ⟨0, 1⟩).1.v, iv (goF l b l.length 0 ⟨0, 1⟩).2]) M := by
  have hl := h.1
  refine Ctr.pure ?_ rfl
  first | (refine ctr_fn Tryz.func125 rfl Tryz.ntmps125 Tryz.results125 rfl rfl (by simp) ?_) | (refine ctr_fnC Tryz.func125 rfl Tryz.ntmps125 Tryz.results125 rfl (by simp) ?_)
  simp [fr_build]
  refine awLoop_T (fun m T M' => ∃ (k : Nat) (a : Frac), k + m = n ∧ Pos M M' A n c b a ∧ goF l b l.length 0 ⟨0, 1⟩ = goF l b m k a ∧ look T 17 = some (iv k) ∧ look T 15 = some (.slice A n c) ∧ look T 16 = some (iv n) ∧ look T 2 = some (.pointer (some ⟨M.length, 0, none⟩)) ∧ look T 3 = some (.pointer (some ⟨M.length + 1, 0, none⟩)) ∧ look T 4 = some (.pointer (some ⟨M.length + 2, 0, none⟩)) ∧ look T 6 = some (.pointer (some ⟨M.length + 3, 0, none⟩))) n
    ⟨0, ⟨0, 1⟩, by omega, ⟨keeps_app _, by simp, by simp, by simp, by simp⟩, by rw [hl], by simp, by simp, by simp, by simp, by simp, by simp, by simp⟩ ?_
  rintro m T M1 ⟨k, a, hm, hP, hgo, t17, t15, t16, t2, t3, t4, t6⟩
  have hK := hP.keeps
  have hr0 := hP.r0
  have hr1 := hP.r1
  have hlen := (List.getElem?_eq_some_iff.1 hP.g3).1
  by_cases hlt : k < n
  · obtain ⟨id, off, rfl, he, hc⟩ := (h.keeps hK).at_ hlt
    obtain ⟨m', rfl⟩ : ∃ m', m = m' + 1 := ⟨m - 1, by omega⟩
    have hld := tempo_load hc
    have x3 := fun L => (hP.app L).ld
    simp (disch := omega) [t17, t15, t16, t2, t3, t4, t6, hlt, he, hld, hr1, cellsAt_app hr1]
    refine awDraw_E 15 [[],[0],[],[2],[3,2],[1,0,4,3,2],[5,1,0,4,3,2],[6,5,1,0,4,3,2],[7,6,5,1,0,4,3,2],[6,5,1,0,4,3,2],[9,6,5,1,0,4,3,2],[8,7,6,5,1,0,4,3,2,10,9],[11,8,7,6,5,1,0,4,3,2,10,9],[12,11,8,7,6,5,1,0,4,3,2,10,9],[6,5,1,0,4,3,2],[13,12,11,8,7,6,5,1,0,4,3,2,10,9,14],[15,13,12,11,8,7,6,5,1,0,4,3,2,10,9,14],[6,5,1,0,4,3,2,16,15,13,12,11,8,7,10,9,14],[17,6,5,1,0,4,3,2,16,15,13,12,11,8,7,10,9,14]] (by kernel_rfl) (by kernel_rfl) ?_
    have hr0' := fun L => cellAt_app hr0 L
    have hr1' := fun L => cellsAt_app hr1 L
    by_cases hkn : k + 1 = n
    · have hla : lastB l b k = true := by unfold lastB; rw [decide_eq_true (by omega)]; rfl
      have ego : goF l b (m' + 1) k a = onF (el l k).beat b (el l k).s a := by rw [goF, if_pos hla]
      rw [ego] at hgo
      have hne' : (k : Int) + 1 = n := by omega
      simp (disch := omega) [t17, t15, t16, t2, t3, t4, t6, hr0', hr1', hne', wrap_in]
      refine awCall_det' (SubFrac_i b (el l k).beat) (by simp; omega) ?_
      by_cases f1 : (subF b (el l k).beat).2 = 0
      case neg =>
        have e := onF_no (at_ := a) (s := (el l k).s) f1
        rw [e] at hgo
        simp (disch := omega) [f1, t4, t6, x3, hgo]
        exact (hP.app _).ret
      have e := onF_steps (at_ := a) (s := (el l k).s) f1
      simp (disch := omega) [f1, t4, t6]
      refine awDraw_L 8 [[],[],[1],[2,1],[0,3,2,1],[4,0,3,2,1],[5,4,0,3,2,1],[5,4,0,3,2,1],[6,5,4,0,3,2,1],[7,5,4,0,3,2,1,8,6]] [7] (by kernel_rfl) (by kernel_rfl) (by kernel_rfl) ?_
      simp (disch := omega) [f1, t4, t6]
      refine awCall_det' (whole_i (el l k).s) (by simp) ?_
      simp (disch := omega)
      refine awCall_det' (MulFrac_i (subF b (el l k).beat).1 ⟨(el l k).s, 1⟩) (by simp) ?_
      by_cases f2 : (mulF (subF b (el l k).beat).1 ⟨(el l k).s, 1⟩).2 = 0
      case neg =>
        rw [if_neg f2] at e
        rw [e] at hgo
        simp (disch := omega) [f2, t4, t6, x3, hgo]
        exact (hP.app _).ret
      rw [if_pos f2] at e
      simp (disch := omega) [f2, t4, t6, x3]
      refine awCall_det' (AddFrac_i a (mulF (subF b (el l k).beat).1 ⟨(el l k).s, 1⟩).1) (by simp; omega) ?_
      generalize addF a (mulF (subF b (el l k).beat).1 ⟨(el l k).s, 1⟩).1 = w at e ⊢
      simp (disch := omega) [t4, t6]
      generalize hM2 : (M1 ++ _ : Mem) = M2
      have hP2 : Pos M M2 (some ⟨id, off, none⟩) n c b a := by rw [← hM2]; exact hP.app _
      clear hM2
      rw [hP2.put rfl w.1]
      simp only [ow_some]
      have hP3 := hP2.upd w.1
      generalize M2.set (M.length + 3) (.live ⟨[iv w.1.n, iv w.1.d], true, true, 152, 2⟩) = M3 at hP3 ⊢
      rw [e] at hgo
      have f3 : w.2 = 0 ∨ w.2 ≠ 0 := by omega
      rcases f3 with f3 | f3
      · simp (disch := omega) [t4, t6, f3, hP3.ld, hgo]
        exact hP3.ret
      · simp (disch := omega) [t4, t6, f3, hP3.ld, hgo]
        exact hP3.ret
    have hk1 : k + 1 < n := by omega
    obtain ⟨_, _, ee, -, hcn⟩ := (h.keeps hK).at_ hk1
    cases ee
    have hldn := fun L => cellsAt_app (tempo_cellsN hcn) L
    have hne' : ¬ (k : Int) + 1 = n := by omega
    have et : ((k : Int) + 1).toNat = k + 1 := by omega
    have he' : ∀ L : Mem, rowEsz (M1 ++ L) id = some 3 := fun L => rowEsz_keeps (keeps_app L) he
    simp (disch := omega) [t17, t15, t16, t2, t3, t4, t6, hr0', hr1', hne', he', hldn, et, wrap_in]
    refine ⟨by omega, ?_⟩
    refine awCall_det' (compare_i (el l (k + 1)).beat b (hf _ (by omega)) hb) (by simp; omega) ?_
    by_cases hcm : 0 < cmpF (el l (k + 1)).beat b
    · have hla : lastB l b k = true := by unfold lastB; rw [decide_eq_true hcm]; simp
      have ego : goF l b (m' + 1) k a = onF (el l k).beat b (el l k).s a := by rw [goF, if_pos hla]
      rw [ego] at hgo
      simp (disch := omega) [hcm, t17, t15, t16, t2, t3, t4, t6, hr0', hr1']
      refine awCall_det' (SubFrac_i b (el l k).beat) (by simp; omega) ?_
      by_cases f1 : (subF b (el l k).beat).2 = 0
      case neg =>
        have e := onF_no (at_ := a) (s := (el l k).s) f1
        rw [e] at hgo
        simp (disch := omega) [f1, t4, t6, x3, hgo]
        exact (hP.app _).ret
      have e := onF_steps (at_ := a) (s := (el l k).s) f1
      simp (disch := omega) [f1, t4, t6]
      refine awDraw_L 8 [[],[],[1],[2,1],[0,3,2,1],[4,0,3,2,1],[5,4,0,3,2,1],[5,4,0,3,2,1],[6,5,4,0,3,2,1],[7,5,4,0,3,2,1,8,6]] [7] (by kernel_rfl) (by kernel_rfl) (by kernel_rfl) ?_
      simp (disch := omega) [f1, t4, t6]
      refine awCall_det' (whole_i (el l k).s) (by simp) ?_
      simp (disch := omega)
      refine awCall_det' (MulFrac_i (subF b (el l k).beat).1 ⟨(el l k).s, 1⟩) (by simp) ?_
      by_cases f2 : (mulF (subF b (el l k).beat).1 ⟨(el l k).s, 1⟩).2 = 0
      case neg =>
        rw [if_neg f2] at e
        rw [e] at hgo
        simp (disch := omega) [f2, t4, t6, x3, hgo]
        exact (hP.app _).ret
      rw [if_pos f2] at e
      simp (disch := omega) [f2, t4, t6, x3]
      refine awCall_det' (AddFrac_i a (mulF (subF b (el l k).beat).1 ⟨(el l k).s, 1⟩).1) (by simp; omega) ?_
      generalize addF a (mulF (subF b (el l k).beat).1 ⟨(el l k).s, 1⟩).1 = w at e ⊢
      simp (disch := omega) [t4, t6]
      generalize hM2 : (M1 ++ _ : Mem) = M2
      have hP2 : Pos M M2 (some ⟨id, off, none⟩) n c b a := by rw [← hM2]; exact hP.app _
      clear hM2
      rw [hP2.put rfl w.1]
      simp only [ow_some]
      have hP3 := hP2.upd w.1
      generalize M2.set (M.length + 3) (.live ⟨[iv w.1.n, iv w.1.d], true, true, 152, 2⟩) = M3 at hP3 ⊢
      rw [e] at hgo
      have f3 : w.2 = 0 ∨ w.2 ≠ 0 := by omega
      rcases f3 with f3 | f3
      · simp (disch := omega) [t4, t6, f3, hP3.ld, hgo]
        exact hP3.ret
      · simp (disch := omega) [t4, t6, f3, hP3.ld, hgo]
        exact hP3.ret
    have hla : ¬ lastB l b k = true := by unfold lastB; rw [decide_eq_false hcm, decide_eq_false (by omega)]; simp
    have ego : goF l b (m' + 1) k a = if (onF (el l k).beat (el l (k + 1)).beat (el l k).s a).2 ≠ 0 then onF (el l k).beat (el l (k + 1)).beat (el l k).s a else goF l b m' (k + 1) (onF (el l k).beat (el l (k + 1)).beat (el l k).s a).1 := by rw [goF, if_neg hla]
    rw [ego] at hgo
    simp (disch := omega) [hcm, t17, t15, t16, t2, t3, t4, t6, hr0', hr1', he', hldn, et, wrap_in]
    refine ⟨by omega, ?_⟩
    refine awCall_det' (SubFrac_i (el l (k + 1)).beat (el l k).beat) (by simp; omega) ?_
    by_cases f1 : (subF (el l (k + 1)).beat (el l k).beat).2 = 0
    case neg =>
      have e := onF_no (at_ := a) (s := (el l k).s) f1
      rw [e, if_pos f1] at hgo
      simp (disch := omega) [f1, t4, t6, x3, hgo]
      exact (hP.app _).ret
    have e := onF_steps (at_ := a) (s := (el l k).s) f1
    simp (disch := omega) [f1, t4, t6]
    refine awDraw_L 8 [[],[],[1],[2,1],[0,3,2,1],[4,0,3,2,1],[5,4,0,3,2,1],[5,4,0,3,2,1],[6,5,4,0,3,2,1],[7,5,4,0,3,2,1,8,6]] [7] (by kernel_rfl) (by kernel_rfl) (by kernel_rfl) ?_
    simp (disch := omega) [f1, t4, t6]
    refine awCall_det' (whole_i (el l k).s) (by simp) ?_
    simp (disch := omega)
    refine awCall_det' (MulFrac_i (subF (el l (k + 1)).beat (el l k).beat).1 ⟨(el l k).s, 1⟩) (by simp) ?_
    by_cases f2 : (mulF (subF (el l (k + 1)).beat (el l k).beat).1 ⟨(el l k).s, 1⟩).2 = 0
    case neg =>
      rw [if_neg f2] at e
      rw [e, if_pos f2] at hgo
      simp (disch := omega) [f2, t4, t6, x3, hgo]
      exact (hP.app _).ret
    rw [if_pos f2] at e
    simp (disch := omega) [f2, t4, t6, x3]
    refine awCall_det' (AddFrac_i a (mulF (subF (el l (k + 1)).beat (el l k).beat).1 ⟨(el l k).s, 1⟩).1) (by simp; omega) ?_
    generalize addF a (mulF (subF (el l (k + 1)).beat (el l k).beat).1 ⟨(el l k).s, 1⟩).1 = w at e ⊢
    simp (disch := omega) [t4, t6]
    generalize hM2 : (M1 ++ _ : Mem) = M2
    have hP2 : Pos M M2 (some ⟨id, off, none⟩) n c b a := by rw [← hM2]; exact hP.app _
    clear hM2
    rw [hP2.put rfl w.1]
    simp only [ow_some]
    have hP3 := hP2.upd w.1
    generalize M2.set (M.length + 3) (.live ⟨[iv w.1.n, iv w.1.d], true, true, 152, 2⟩) = M3 at hP3 ⊢
    rw [e] at hgo
    by_cases f3 : w.2 = 0
    · rw [if_neg (by omega)] at hgo
      simp (disch := omega) [t17, t4, t6, f3, hP3.ld, wrap_in]
      exact lpI (m' + 1 - 1) (by omega) ⟨k + 1, w.1, by omega, hP3, hgo, by simp, by simp [t15], by simp [t16], by simp [t2], by simp [t3], by simp [t4], by simp [t6]⟩
    · rw [if_pos (by omega)] at hgo
      simp (disch := omega) [t4, t6, f3, hP3.ld, hgo]
      exact hP3.ret
  · obtain rfl : k = n := by omega
    obtain rfl : m = 0 := by omega
    rw [show goF l b 0 k a = (a, 0) from rfl] at hgo
    simp [t17, t16, t6, t4, hlt, hP.ld, hgo]
    exact hP.ret
end Go.Proofs.YtimijeeihicohaaGreat

namespace Go.Proofs.YtimijeeihicohaaGreat
open Go.RowKit
set_option linter.unusedVariables false
set_option linter.unusedSimpArgs false
set_option maxRecDepth 100000
attribute [local simp] List.getElem?_cons_zero
attribute [local irreducible] awCond awCall awLoop awDraw ow retQ retC resQ Keeps
theorem beat_zero {t : Tempo} (h : fracB t.beat = true) (h0 : t.bn = 0) : t.bd = 1 := by
  obtain ⟨⟨h1, -⟩, -, h3⟩ := fracB_iff.1 h
  have e1 : t.beat.n = 0 := h0
  rw [e1] at h3
  simp at h3
  have e2 : t.beat.d = t.bd := rfl
  omega
theorem cells_one {M : Mem} {id off : Nat} {v : Value} (h : cellAt M id off = some v) : cellsAt M id off 1 = some [v] :=
  cellsAt_of (xs := [v]) (fun j x hx => by
    rcases j with _ | j
    · simp at hx
      subst hx
      exact h
    · simp at hx) rfl (by omega)
theorem sizeTempo_a {M : Mem} {A : Option Addr} {n c : Nat} : Det Tryz.prog M.length 122 [.slice A n c] M (iv n) M := by
  first | (refine det_fn Tryz.func122 rfl Tryz.ntmps122 Tryz.results122 rfl rfl rfl (by simp) ?_) | (refine det_fnC Tryz.func122 rfl Tryz.ntmps122 Tryz.results122 rfl rfl (by simp) ?_)
  simp [Keeps.refl]
theorem isTempos_i {M : Mem} {A : Option Addr} {n c : Nat} {l : List Tempo} (h : Sl tempoR M A n l) (hn : n ≤ 1099511627776) : Det Tryz.prog M.length 69 [.agg #[.slice A n c]] M (.bool (tempB l)) M := by
  have hl := h.1
  first | (refine det_fn Tryz.func69 rfl Tryz.ntmps69 Tryz.results69 rfl rfl rfl (by simp) ?_) | (refine det_fnC Tryz.func69 rfl Tryz.ntmps69 Tryz.results69 rfl rfl (by simp) ?_)
  simp
  refine awCall_det' sizeTempo_a (by simp) ?_
  refine awCall_det' (within_a (n : Int) 1 8) (by simp) ?_
  by_cases hin : inB (n : Int) 1 8 = true
  case neg =>
    have e : tempB l = false := tempB_len (by rw [hl]; simpa using hin)
    simp [hin, e, keeps_app]
  have hinb := inB_iff.1 hin
  have h0n : 0 < n := by omega
  obtain ⟨id, off, rfl, he, hc0⟩ := h.at_ h0n
  have he' := fun L : Mem => rowEsz_keeps (keeps_app (M := M) L) he
  have hld0 := fun L => cellsAt_app (tempo_cellsN hc0) L
  simp only [Nat.zero_mul, Nat.add_zero] at hld0
  simp (disch := omega) [hin, h0n, he', hld0, fr_build]
  have fn : binV Tryz.prog .neq 152 (.agg #[iv (el l 0).bn, iv (el l 0).bd]) (.agg #[iv 0, iv 1]) = some (.bool (!decide ((el l 0).beat = ⟨0, 1⟩))) := frac_neq (el l 0).beat ⟨0, 1⟩
  simp (disch := omega) [fn]
  by_cases hz : (el l 0).beat = ⟨0, 1⟩
  case neg =>
    have e : tempB l = false := tempB_no fun hb => by
      obtain ⟨-, h2, h3, -⟩ := tempA_iff.1 (tempB_iff.1 hb).1
      have hb0 := (beatB_iff.1 (tempoB_iff.1 (h2 0 (by omega))).1).1
      have hd := beat_zero hb0 h3
      exact hz (by show (⟨(el l 0).bn, (el l 0).bd⟩ : Frac) = _; rw [h3, hd])
    simp [hz, e, keeps_app]
  have hz0 : (el l 0).bn = 0 := congrArg Frac.n hz
  simp [hz]
  have hr0 : cellAt (M ++ [.live ⟨[.slice (some ⟨id, off, none⟩) n c], true, true, 74, 1⟩]) M.length 0 = some (.slice (some ⟨id, off, none⟩) n c) := by simp
  have hP : ∀ {k : Nat}, k ≤ n → True := fun _ => trivial
  refine awLoop_T (fun m T M' => ∃ k : Nat, k + m = n ∧ Keeps (M ++ [.live ⟨[.slice (some ⟨id, off, none⟩) n c], true, true, 74, 1⟩]) M' ∧ (∀ i, i < k → tempoB (el l i) = true) ∧ (∀ i, i < k → 0 < i → cmpF (el l (i - 1)).beat (el l i).beat < 0) ∧ look T 26 = some (iv k) ∧ look T 25 = some (iv n) ∧ look T 24 = some (.slice (some ⟨id, off, none⟩) n c) ∧ look T 1 = some (.pointer (some ⟨M.length, 0, none⟩))) n
    ⟨0, by omega, Keeps.refl _, fun i hi => by omega, fun i hi => by omega, by simp, by simp, by simp, by simp⟩ ?_
  rintro m T M1 ⟨k, hm, hK, ha, hs, t26, t25, t24, t1⟩
  have hKM := (keeps_app _).trans hK
  have hKl := hK.len
  simp only [List.length_append, List.length_cons, List.length_nil] at hKl
  have hr1 := cellAt_keeps hK hr0
  have hr1' := fun L => cellAt_app hr1 L
  have he1 := fun L : Mem => rowEsz_keeps (keeps_app (M := M1) L) (rowEsz_keeps hKM he)
  by_cases hlt : k < n
  · obtain ⟨_, _, ee, -, hc⟩ := (h.keeps hKM).at_ hlt
    cases ee
    have hld := tempo_load hc
    simp (disch := omega) [t26, t25, t24, t1, hlt, rowEsz_keeps hKM he, hld]
    refine awDraw_E 23 [[],[0],[1,0],[2,1,0],[3,2,1,0],[4,3,2,1,0],[5,4,3,2,1,0],[6,5,4,3,2,1,0],[7,6,5,4,3,2,1,0],[4,3,2,1,0,8,7,6,5],[9,4,3,2,1,0,8,7,6,5],[10,9,4,3,2,1,0,8,7,6,5],[11,10,9,4,3,2,1,0,8,7,6,5],[12,11,10,9,4,3,2,1,0,8,7,6,5],[13,12,11,10,9,4,3,2,1,0,8,7,6,5],[14,13,12,11,10,9,4,3,2,1,0,8,7,6,5],[13,12,11,10,9,4,3,2,1,0,8,7,6,5],[16,13,12,11,10,9,4,3,2,1,0,8,7,6,5],[15,14,13,12,11,10,9,4,3,2,1,0,8,7,6,5,17,16],[18,15,14,13,12,11,10,9,4,3,2,1,0,8,7,6,5,17,16],[19,18,15,14,13,12,11,10,9,4,3,2,1,0,8,7,6,5,17,16],[13,12,11,10,9,4,3,2,1,0,8,7,6,5],[21,13,12,11,10,9,4,3,2,1,0,8,7,6,5],[20,19,18,15,14,13,12,11,10,9,4,3,2,1,0,8,7,6,5,17,16,22,21],[23,20,19,18,15,14,13,12,11,10,9,4,3,2,1,0,8,7,6,5,17,16,22,21],[13,12,11,10,9,4,3,2,1,0,8,7,6,5,24,23,20,19,18,15,14,17,16,22,21],[10,9,4,3,2,1,0,8,7,6,5,25,13,12,11,24,23,20,19,18,15,14,17,16,22,21]] (by kernel_rfl) (by kernel_rfl) ?_
    simp (disch := omega) [t26, t25, t24, t1]
    refine awCall_det' (isBeat_i (el l k).beat) (by simp) ?_
    by_cases f1 : beatB (el l k).beat = true
    case neg =>
      have e : tempB l = false := tempB_no fun hb => f1 (tempoB_iff.1 ((tempA_iff.1 (tempB_iff.1 hb).1).2.1 k (by omega))).1
      simp (disch := omega) [f1, e, t1, hKM.app]
    simp (disch := omega) [f1, t26, t1]
    refine awCall_det' (within_a (el l k).s 1 1000) (by simp) ?_
    by_cases f2 : inB (el l k).s 1 1000 = true
    case neg =>
      have e : tempB l = false := tempB_no fun hb => f2 (inB_iff.2 (tempoB_iff.1 ((tempA_iff.1 (tempB_iff.1 hb).1).2.1 k (by omega))).2)
      simp (disch := omega) [f2, e, t1, hKM.app]
    have ht : tempoB (el l k) = true := tempoB_iff.2 ⟨f1, inB_iff.1 f2⟩
    by_cases hk0 : k = 0
    · subst hk0
      simp (disch := omega) [f2, t26, t25, t24, t1, wrap_in]
      exact lpI (m - 1) (by omega) ⟨1, by omega, hK.app _, (fun i hi => by obtain rfl : i = 0 := (by omega); exact ht), (fun i hi h0 => by omega), by simp, by simp [t25], by simp [t24], by simp [t1]⟩
    obtain ⟨_, _, ee, -, hcp⟩ := (h.keeps hKM).at_ (show k - 1 < n by omega)
    cases ee
    have hldp := fun L => cellsAt_app (tempo_cellsN hcp) L
    have et : ((k : Int) - 1).toNat = k - 1 := by omega
    have hk0' : (0 : Int) < k := by omega
    have hk00 : 0 < k := by omega
    simp (disch := omega) [f2, t26, t25, t24, t1, wrap_in, hk0', hk00, hr1', he1, hldp, et]
    refine ⟨by omega, ?_⟩
    refine awCall_det' (compare_i (el l (k - 1)).beat (el l k).beat (beatB_iff.1 (tempoB_iff.1 (ha (k - 1) (by omega))).1).1 (beatB_iff.1 f1).1) (by simp; omega) ?_
    by_cases f3 : cmpF (el l (k - 1)).beat (el l k).beat < 0
    case neg =>
      have e : tempB l = false := tempB_no fun hb => f3 ((tempA_iff.1 (tempB_iff.1 hb).1).2.2.2 k (by omega) hk00)
      have f3' : 0 ≤ cmpF (el l (k - 1)).beat (el l k).beat := by omega
      simp (disch := omega) [f3', e, t1, hKM.app]
    have f3' : ¬ 0 ≤ cmpF (el l (k - 1)).beat (el l k).beat := by omega
    simp (disch := omega) [f3', t26, t25, t24, t1, wrap_in]
    refine lpI (m - 1) (by omega) ⟨k + 1, by omega, hK.app _, ?_, ?_, by simp, by simp [t25], by simp [t24], by simp [t1]⟩
    · intro i hi
      by_cases hik : i = k
      · rw [hik]; exact ht
      · exact ha i (by omega)
    · intro i hi h0
      by_cases hik : i = k
      · rw [hik]; exact f3
      · exact hs i (by omega) h0
  · obtain rfl : k = n := by omega
    have hA : tempA l = true := tempA_iff.2 ⟨by omega, fun i hi => ha i (by omega), hz0, fun i hi h0 => hs i (by omega) h0⟩
    have hf : ∀ i, i < l.length → fracB (el l i).beat = true := fun i hi => (beatB_iff.1 (tempoB_iff.1 (ha i (by omega))).1).1
    simp (disch := omega) [t26, t25, t24, t1, hr1]
    refine awLoop_T (fun m T M' => ∃ j : Nat, j + m = k ∧ Keeps (M ++ [.live ⟨[.slice (some ⟨id, off, none⟩) k c], true, true, 74, 1⟩]) M' ∧ (∀ i, i < j → (posK l i).isSome = true) ∧ look T 62 = some (iv j) ∧ look T 61 = some (iv k) ∧ look T 60 = some (.slice (some ⟨id, off, none⟩) k c) ∧ look T 1 = some (.pointer (some ⟨M.length, 0, none⟩))) k
      ⟨0, by omega, hK, fun i hi => by omega, by simp, by simp, by simp, by simp [t1]⟩ ?_
    clear hK hKM hKl hr1 hr1' he1 t26 t25 t24 t1
    clear T M1
    rintro m T M1 ⟨j, hm, hK, hp, t62, t61, t60, t1⟩
    have hKM := (keeps_app _).trans hK
    have hKl := hK.len
    simp only [List.length_append, List.length_cons, List.length_nil] at hKl
    have hr1 := fun L => cellAt_app (cellAt_keeps hK hr0) L
    by_cases hlt2 : j < k
    · obtain ⟨_, _, ee, -, hc⟩ := (h.keeps hKM).at_ hlt2
      cases ee
      have hld := tempo_load hc
      simp (disch := omega) [t62, t61, t60, t1, hlt2, rowEsz_keeps hKM he, hld, cells_one (hr1 _)]
      refine awCall_det' (position_i (c := c) (el l j).beat ((h.keeps hKM).app _) hn (hf j (by omega)) hf) (by simp; omega) ?_
      have hgs := go_self hA (j := j) (by omega)
      by_cases f4 : (goF l (el l j).beat l.length 0 ⟨0, 1⟩).2 = 0
      · simp (disch := omega) [f4, t62, wrap_in]
        refine lpI (m - 1) (by omega) ⟨j + 1, by omega, (hK.app _), ?_, by simp, by simp [t61], by simp [t60], by simp [t1]⟩
        intro i hi
        by_cases hij : i = j
        · rw [hij]; exact hgs.1 f4
        · exact hp i (by omega)
      · have e : tempB l = false := tempB_no fun hb => f4 (hgs.2 ((tempB_iff.1 hb).2 j (by omega)))
        simp (disch := omega) [f4, e, hKM.app]
    · obtain rfl : j = k := by omega
      have e : tempB l = true := tempB_iff.2 ⟨hA, fun i hi => hp i (by omega)⟩
      simp [t62, t61, e, hKM]
theorem beatCode_i {M : Mem} {A : Option Addr} {n c id : Nat} {l : List Tempo} (b : Frac) (h : Sl tempoR M A n l) (hn : n ≤ 1099511627776) (hr : cellAt M id 0 = some (.slice A n c)) (he : rowEsz M id = some 1) :
    Det Tryz.prog M.length 217 [b.v, .slice (some ⟨id, 0, none⟩) 1 1] M (iv (askC l b)) M := by
  first | (refine det_fn Tryz.func217 rfl Tryz.ntmps217 Tryz.results217 rfl rfl rfl (by simp) ?_) | (refine det_fnC Tryz.func217 rfl Tryz.ntmps217 Tryz.results217 rfl rfl (by simp) ?_)
  simp
  refine awLoop_T (fun m T M' => ∃ k : Nat, k + m = 1 ∧ Keeps (M ++ [.live ⟨[iv b.n, iv b.d], true, true, 152, 2⟩]) M' ∧ (k = 1 → tempB l = true) ∧ look T 9 = some (iv k) ∧ look T 8 = some (iv 1) ∧ look T 7 = some (.slice (some ⟨id, 0, none⟩) 1 1) ∧ look T 2 = some (.pointer (some ⟨M.length, 0, none⟩))) 1
    ⟨0, by omega, Keeps.refl _, fun h => by omega, by simp, by simp, by simp, by simp⟩ ?_
  rintro m T M1 ⟨k, hm, hK, hk, t9, t8, t7, t2⟩
  have hKM := (keeps_app _).trans hK
  have hKl := hK.len
  simp only [List.length_append, List.length_cons, List.length_nil] at hKl
  have hb1 : cellsAt M1 M.length 0 2 = some [iv b.n, iv b.d] := cellsAt_keeps hK (by simp)
  rcases k with _ | k
  · have hx := cells_one (cellAt_keeps hKM hr)
    simp (disch := omega) [t9, t8, t7, t2, rowEsz_keeps hKM he, hx]
    refine awCall_det' (isTempos_i (c := c) ((h.keeps hKM).app _) hn) (by simp; omega) ?_
    by_cases f1 : tempB l = true
    · simp (disch := omega) [f1, t9, wrap_in]
      exact lpI (m - 1) (by omega) ⟨1, by omega, hK.app _, fun _ => f1, by simp, by simp [t8], by simp [t7], by simp [t2]⟩
    · have e : askC l b = 1 := by simp [askC, f1]
      simp [f1, e, hKM.app]
  · obtain rfl : k = 0 := by omega
    have f1 := hk rfl
    simp (disch := omega) [t9, t8, t2, hb1]
    refine awCall_det' (isFrac_i b) (by omega) ?_
    by_cases f2 : fracB b = true
    · simp (disch := omega) [f2, t2, hb1]
      refine awCall_det' (isBeat_i b) (by omega) ?_
      by_cases f3 : beatB b = true
      · have e : askC l b = 0 := askC_zero.2 ⟨f1, f3⟩
        simp [f3, e, hKM]
      · have e : askC l b = 2 := by simp [askC, f1, f2, f3]
        simp [f3, e, hKM]
    · have e : askC l b = 1 := by simp [askC, f2]
      simp [f2, e, hKM]
theorem posB_eq {l : List Tempo} {b : Frac} (h : askC l b = 0) : (goF l b l.length 0 ⟨0, 1⟩).2 = 0 ∧ posB l b = goF l b l.length 0 ⟨0, 1⟩ ∨ (goF l b l.length 0 ⟨0, 1⟩).2 = 2 ∧ posB l b = (⟨0, 0⟩, 2) := by
  obtain ⟨hT, hB⟩ := askC_zero.1 h
  obtain ⟨k, a, h1, h2, h3, h4⟩ := go_beat hT hB
  have ht := tempoB_iff.1 ((tempA_iff.1 (tempB_iff.1 hT).1).2.1 k h2)
  have hc := onF_code (s := (el l k).s) (beatB_iff.1 ht.1).1 (beatB_iff.1 hB).1 (posK_ok l h3) ht.2
  rw [h4]
  unfold posB
  rw [if_pos h, h1, posAll_el h2 h3]
  by_cases h0 : (onF (el l k).beat b (el l k).s a).2 = 0
  · exact .inl ⟨h0, if_pos h0⟩
  · exact .inr ⟨by omega, if_neg h0⟩
theorem box_fill (A : Option Addr) (n c : Nat) : Instr.fill (fun i => some (i, 1)) (zrow [.slice none 0 0] 1).toArray [(0, Value.agg #[.slice A n c])] = some #[.slice A n c] := by rfl
theorem PositionOfBeat_i {M : Mem} {A : Option Addr} {n c : Nat} {l : List Tempo} (b : Frac) (h : Sl tempoR M A n l) (hn : n ≤ 1099511627776) :
    Det Tryz.prog M.length 181 [.agg #[.slice A n c], b.v] M (.tuple #[(posB l b).1.v, iv (posB l b).2]) M := by
  refine Ctr.pure ?_ rfl
  first | (refine ctr_fn Tryz.func181 rfl Tryz.ntmps181 Tryz.results181 rfl rfl (by simp) ?_) | (refine ctr_fnC Tryz.func181 rfl Tryz.ntmps181 Tryz.results181 rfl (by simp) ?_)
  simp [box_fill]
  refine awCall_det' (beatCode_i (c := c) b (h.app _) hn (by simp) (by simp [rowEsz])) (by simp) ?_
  by_cases h0 : askC l b = 0
  case neg =>
    have e : posB l b = (⟨0, 0⟩, askC l b) := by unfold posB; rw [if_neg h0]
    simp [h0, e, fr_build0, keeps_app]
  obtain ⟨hT, hB⟩ := askC_zero.1 h0
  have hf : ∀ i, i < l.length → fracB (el l i).beat = true := fun i hi => (beatB_iff.1 (tempoB_iff.1 ((tempA_iff.1 (tempB_iff.1 hT).1).2.1 i hi)).1).1
  simp [h0]
  refine awCall_det' (position_i (c := c) b (h.app _) hn (beatB_iff.1 hB).1 hf) (by simp) ?_
  rcases posB_eq h0 with ⟨h1, e⟩ | ⟨h1, e⟩
  · simp [h1, e, fr_build0, keeps_app]
  · simp [h1, e, fr_build0, keeps_app]
theorem SampleOfBeat_i {M : Mem} {A : Option Addr} {n c : Nat} {l : List Tempo} (b : Frac) (h : Sl tempoR M A n l) (hn : n ≤ 1099511627776) :
    Det Tryz.prog M.length 126 [.agg #[.slice A n c], b.v] M (.tuple #[iv (sampB l b).1, iv (sampB l b).2]) M := by
  first | (refine det_fn Tryz.func126 rfl Tryz.ntmps126 Tryz.results126 rfl rfl rfl (by simp) ?_) | (refine det_fnC Tryz.func126 rfl Tryz.ntmps126 Tryz.results126 rfl rfl (by simp) ?_)
  simp
  refine awCall_det' (PositionOfBeat_i (c := c) b (h.app _) hn) (by simp) ?_
  simp
  refine awCall_det' (FloorFrac_i (posB l b).1) (by simp) ?_
  by_cases h0 : (posB l b).2 = 0
  · have hf := posB_ok h0
    simp [sampB, h0, floorF, hf, keeps_app]
  · have e : (posB l b).1 = ⟨0, 0⟩ := by
      unfold posB at h0 ⊢
      split
      · rename_i h1
        rw [if_pos h1] at h0
        split
        · rename_i h2
          rw [if_pos h2] at h0
          exact absurd h2 h0
        · rfl
      · rfl
    simp [sampB, h0, e, keeps_app]
    decide
end Go.Proofs.YtimijeeihicohaaGreat
