/- Tempo maps: the reference's functions. No conditions. -/
import Derived.Test.YtgaiejaegimilaaQ7
namespace Go.Proofs.Ytgaiejaegimilaa
open Go.RowKit
set_option linter.unusedVariables false
set_option linter.unusedSimpArgs false
set_option maxRecDepth 100000
attribute [local simp] List.getElem?_cons_zero
attribute [local irreducible] awCond awCall awLoop awDraw ow retQ retC resQ Keeps
theorem Same.app' (B : Nat) (M L : Mem) : Same B M (M ++ L) := ⟨by simp, fun i s _ hs => by rw [List.getElem?_append_left (List.getElem?_eq_some_iff.1 hs).1]; exact hs⟩
theorem Same.tr {B : Nat} {M M1 M2 : Mem} (h : Same B M M1) (h' : Same B M1 M2) : Same B M M2 := ⟨Nat.le_trans h.1 h'.1, fun i s hi hs => h'.2 i s hi (h.2 i s hi hs)⟩
theorem Same.setb {B id : Nat} {M : Mem} {s : Slot} (h : B ≤ id) : Same B M (M.set id s) := ⟨by simp, fun i t hi ht => by rw [List.getElem?_set_ne (by omega)]; exact ht⟩
theorem Same.keepsA {M M' : Mem} (h : Same M.length M M') : Keeps M M' := by
  unfold Keeps
  exact fun i s hs => h.2 i s (List.getElem?_eq_some_iff.1 hs).1 hs
theorem Acc.set_apart {α : Type} {q : Nat} {R : RecV α q} {e : TypeId} {B i : Nat} {M : Mem} {v : Value} {l : List α} {s : Slot} (h : Acc R e B M v l) (ha : Apart v i) : Acc R e B (M.set i s) v l := by
  obtain ⟨A, n, c, rfl, h2, h3⟩ := h
  refine ⟨A, n, c, rfl, h2, ?_⟩
  rcases h3 with h3 | ⟨id, t, rfl, h5, h6⟩
  · exact .inl h3
  · have hne : i ≠ id := ha _ _ _ _ rfl rfl
    exact .inr ⟨id, t, rfl, h5, by rw [List.getElem?_set_ne hne]; exact h6⟩
theorem l17On_a {M : Mem} (frm beat at_ : Frac) (s : Int) : Det Try.prog M.length 116 [frm.v, beat.v, iv s, at_.v] M (.tuple #[(onY frm beat s at_).v, .bool (onOk frm beat s at_)]) M := by
  first | (refine det_fn Try.func116 rfl Try.ntmps116 Try.results116 rfl rfl rfl (by simp) ?_) | (refine det_fnC Try.func116 rfl Try.ntmps116 Try.results116 rfl rfl (by simp) ?_)
  simp
  refine awCall_det' (SubFrac_s beat frm) (by simp) ?_
  simp [fr_build]
  refine awCall_det' (MulFrac_s (subF beat frm).1 ⟨s, 1⟩) (by simp) ?_
  simp
  refine awCall_det' (AddFrac_s at_ (mulF (subF beat frm).1 ⟨s, 1⟩).1) (by simp) ?_
  unfold onOk onY
  by_cases h1 : (subF beat frm).2 = 0
  · by_cases h2 : (mulF (subF beat frm).1 ⟨s, 1⟩).2 = 0
    · simp [h1, h2, keeps_app]
    · simp [h1, h2, keeps_app]
  · simp [h1, keeps_app]
theorem tempB_len {l : List Tempo} (h : inB l.length 1 8 = false) : tempB l = false := by simp [tempB, tempA, h]
theorem tempB_iff {l : List Tempo} : tempB l = true ↔ tempA l = true ∧ ∀ k, k < l.length → (posK l k).isSome = true := by
  simp only [tempB, Bool.and_eq_true, decide_eq_true_eq]
theorem tempB_no {l : List Tempo} (h : tempB l = true → False) : tempB l = false := by
  cases hb : tempB l with
  | false => rfl
  | true => exact (h hb).elim
theorem posAll_len (l : List Tempo) : (posAll l).length = l.length := by simp [posAll]
theorem posAll_el {l : List Tempo} {k : Nat} {a : Frac} (hk : k < l.length) (h : posK l k = some a) : el (posAll l) k = a := by
  rw [← el_eq (l := posAll l) (by rw [posAll_len]; exact hk)]
  simp [posAll, h]
theorem posAll_take {l : List Tempo} {k : Nat} {a : Frac} (hk : k < l.length) (h : posK l k = some a) : (posAll l).take (k + 1) = (posAll l).take k ++ [a] := by
  rw [take_el (by rw [posAll_len]; exact hk), posAll_el hk h]
theorem tempo_cellsN {M : Mem} {id off : Nat} {t : Tempo} (h : Cl M id off t.row) : cellsAt M id off 2 = some [iv t.bn, iv t.bd] :=
  cellsAt_of (fun j x hx => h j x (by
    rcases j with _ | _ | j
    · exact hx
    · exact hx
    · simp at hx)) rfl (by omega)
theorem at_build (x : Int) : Instr.fill (fun x => [(0, 1), (1, 1)][x]?) #[iv 0, iv 0] [(1, iv x)] = some #[iv 0, iv x] := by rfl
theorem cells_hrq {M : Mem} {id n : Nat} {r : Row} (h : M[id]? = some (.live r)) (hn : n = r.cells.length) : cellsAt M id 0 n = some r.cells := by
  subst hn
  simp [cellsAt, h]
/-- How far the reading of a map has come. -/
structure TP (l : List Tempo) (k : Nat) (a : Frac) : Prop where
  tempo : ∀ i, i < k → tempoB (el l i) = true
  first : 0 < k → (el l 0).bn = 0
  sort : ∀ i, i < k → 0 < i → cmpF (el l (i - 1)).beat (el l i).beat < 0
  pos : ∀ i, i < k → (posK l i).isSome = true
  at_ : posK l (k - 1) = some a
theorem TP.done {l : List Tempo} {a : Frac} (h : TP l l.length a) (hl : inB l.length 1 8 = true) : tempB l = true :=
  tempB_iff.2 ⟨tempA_iff.2 ⟨by have := inB_iff.1 hl; omega, h.tempo, h.first (by have := inB_iff.1 hl; omega), h.sort⟩, h.pos⟩
def PosR (M : Mem) (l : List Tempo) (n : Nat) (r : Value) (M' : Mem) : Prop := ∃ v, r = .tuple #[v, .bool (tempB l)] ∧ (tempB l = true → ∃ A c, v = .slice A n c ∧ Sl fracR M' A n (posAll l)) ∧ Keeps M M'
theorem PosR.no {M M' : Mem} {l : List Tempo} {n : Nat} {v : Value} (hk : Keeps M M') (e : tempB l = false) : PosR M l n (.tuple #[v, .bool false]) M' := by
  refine ⟨v, by rw [e], ?_, hk⟩
  intro h
  rw [e] at h
  cases h
theorem PosR.yes {M M' : Mem} {l : List Tempo} {n : Nat} {A : Option Addr} {c : Nat} (hk : Keeps M M') (e : tempB l = true) (hs : Sl fracR M' A n (posAll l)) : PosR M l n (.tuple #[.slice A n c, .bool true]) M' :=
  ⟨_, by rw [e], fun _ => ⟨A, c, rfl, hs⟩, hk⟩
theorem posK_on {l : List Tempo} {k : Nat} {a : Frac} (hk : 0 < k) (h : posK l (k - 1) = some a) : posK l k = if onOk (el l (k - 1)).beat (el l k).beat (el l (k - 1)).s a = true then some (onY (el l (k - 1)).beat (el l k).beat (el l (k - 1)).s a) else none := by
  obtain ⟨j, rfl⟩ : ∃ j, k = j + 1 := ⟨k - 1, by omega⟩
  simp only [Nat.add_sub_cancel] at h ⊢
  show (posK l j).bind _ = _
  rw [h]
  simp only [Option.bind_some]
  by_cases hc : (onF (el l j).beat (el l (j + 1)).beat (el l j).s a).2 = 0
  · rw [if_pos hc, if_pos (onOk_iff.2 hc), onY_eq hc]
  · rw [if_neg hc, if_neg (fun h => hc (onOk_iff.1 h))]
set_option maxHeartbeats 4000000 in
theorem l17Positions_a {M : Mem} {A : Option Addr} {n c id0 off0 : Nat} {l : List Tempo} (h : Sl tempoR M A n l) (hr : cellAt M id0 off0 = some (.slice A n c)) (hn : n ≤ 1099511627776) :
    Ctr Try.prog M.length 97 [.pointer (some ⟨id0, off0, none⟩)] M (PosR M l n) := by
  have hl := h.1
  first | (refine ctr_fn Try.func97 rfl Try.ntmps97 Try.results97 rfl rfl (by simp) ?_) | (refine ctr_fnC Try.func97 rfl Try.ntmps97 Try.results97 rfl (by simp) ?_)
  simp [hr]
  refine awCall_det' (l00In_a _ _ _) (by simp) ?_
  by_cases hin : inB (n : Int) 1 8 = true
  case neg =>
    have e : tempB l = false := tempB_len (by rw [hl]; simpa using hin)
    simp [hin]
    exact PosR.no (Keeps.refl _) e
  have hinb := inB_iff.1 hin
  simp [hin, at_build]
  have hacc : Acc fracR 58 M.length (M ++ [.live ⟨[], true, true, 58, 2⟩, .live ⟨[iv 0, iv 1], true, true, 58, 2⟩]) (.slice (some ⟨M.length, 0, none⟩) 0 0) [] := ⟨_, _, _, rfl, rfl, .inr ⟨M.length, true, rfl, Nat.le_refl _, by simp [cellsL_nil]⟩⟩
  refine awLoop_T (fun m T M' => ∃ (k : Nat) (v : Value) (a : Frac), k + m = n ∧ Same M.length M M' ∧ TP l k a ∧ Acc fracR 58 M.length M' v ((posAll l).take k) ∧ Apart v (M.length + 1) ∧ M'[M.length + 1]? = some (.live ⟨[iv a.n, iv a.d], true, true, 58, 2⟩) ∧ look T 6 = some (iv k) ∧ look T 4 = some v ∧ look T 5 = some (.pointer (some ⟨M.length + 1, 0, none⟩)) ∧ look T 0 = some (.pointer (some ⟨id0, off0, none⟩))) n
    ⟨0, _, ⟨0, 1⟩, by omega, Same.app' _ _ _, ⟨(fun i hi => by omega), (fun h => by omega), (fun i hi => by omega), (fun i hi => by omega), rfl⟩, by simpa using hacc, (fun A n' c' ad e ea => by injection e with e1; subst e1; injection ea with ea; subst ea; show M.length + 1 ≠ M.length; omega), by simp, by simp, by simp, by simp, by simp⟩ ?_
  rintro m T M1 ⟨k, v, a, hm, hsm, hP, hA, hap, hra, t6, t4, t5, t0⟩
  have n1 := hsm.1
  have hK := hsm.keepsA
  have hr1 := cellAt_keeps hK hr
  by_cases hlt : k < n
  · obtain ⟨id, off, rfl, he, hc⟩ := (h.keeps hK).at_ hlt
    have hld := tempo_load hc
    simp (disch := omega) [t6, t4, t5, t0, hr1, hlt, he, hld]
    refine awCall_det' (l02Ok_a (el l k).beat) (by simp; omega) ?_
    by_cases f1 : fracB (el l k).beat = true
    case neg =>
      have e : tempB l = false := tempB_no fun hb => f1 (beatB_iff.1 (tempoB_iff.1 ((tempA_iff.1 (tempB_iff.1 hb).1).2.1 k (by omega))).1).1
      simp [f1]
      exact PosR.no (hK.app _) e
    simp [f1]
    refine awCall_det' (l17Beat_a (el l k).beat f1) (by simp; omega) ?_
    by_cases f2 : beatB (el l k).beat = true
    case neg =>
      have e : tempB l = false := tempB_no fun hb => f2 (tempoB_iff.1 ((tempA_iff.1 (tempB_iff.1 hb).1).2.1 k (by omega))).1
      simp [f2]
      exact PosR.no (hK.app _) e
    simp [f2]
    refine awCall_det' (l00In_a _ _ _) (by simp; omega) ?_
    by_cases f3 : inB (el l k).s 1 1000 = true
    case neg =>
      have e : tempB l = false := tempB_no fun hb => f3 (inB_iff.2 (tempoB_iff.1 ((tempA_iff.1 (tempB_iff.1 hb).1).2.1 k (by omega))).2)
      simp [f3]
      exact PosR.no (hK.app _) e
    have f3b := inB_iff.1 f3
    have htk : tempoB (el l k) = true := tempoB_iff.2 ⟨f2, f3b⟩
    simp [f3]
    -- the first one is at 0
    by_cases hk0 : k = 0
    · subst hk0
      by_cases f4 : (el l 0).bn = 0
      case neg =>
        have e : tempB l = false := tempB_no fun hb => f4 (tempA_iff.1 (tempB_iff.1 hb).1).2.2.1
        simp [t6, f4]
        exact PosR.no (hK.app _) e
      have x0 : ∀ L : Mem, cellsAt (M1 ++ L) (M.length + 1) 0 2 = some [iv a.n, iv a.d] := fun L => cellsAt_app (cells_hrq hra rfl) L
      simp [t6, t4, t5, t0, f4, x0]
      have ea : a = ⟨0, 1⟩ := by have := hP.at_; simp [posK] at this; exact this.symm
      refine Acc.append2 (R := fracR) (e := 58) (by_ := 16) (a := a) (hA.keeps (keeps_app _)) (Nat.le_refl _) (by simp; omega) (by omega) (by simp) (by kernel_rfl) (by simp [srcOf, fracR, Frac.row]) (by rfl) (by simp) (by unfold maxLen; simp) ?_
      intro v' M2 hA2 s2 ap2
      obtain ⟨hra2, hap2⟩ := ap2 (M.length + 1) _ hap (by simp only [St.M_mk]; rw [List.getElem?_append_left (List.getElem?_eq_some_iff.1 hra).1]; exact hra)
      simp (disch := omega) [t6, t4, t5, t0, wrap_in]
      refine lpI (m - 1) (by omega) ⟨1, v', a, by omega, (hsm.tr (Same.app' _ _ _)).tr (by simpa using s2), ⟨(fun i hi => by obtain rfl : i = 0 := (by omega); exact htk), fun _ => f4, (fun i hi h0 => by omega), (fun i hi => by obtain rfl : i = 0 := (by omega); rfl), hP.at_⟩, by rw [posAll_take (by omega) hP.at_]; exact hA2, hap2, hra2, by simp, by simp, by simp [t5], by simp [t0]⟩
    · have hk0' : ¬ (k : Int) = 0 := by omega
      have hkp : 0 < k := by omega
      have hkp' : (0 : Int) < k := by omega
      have hr2 := fun L => cellAt_app hr1 L
      have he2 : ∀ L : Mem, rowEsz (M1 ++ L) id = some 3 := fun L => rowEsz_keeps (keeps_app L) he
      obtain ⟨_, _, ee, -, hcp⟩ := (h.keeps hK).at_ (show k - 1 < n by omega)
      cases ee
      have hldp := fun L => cellsAt_app (tempo_load hcp) L
      have et : ((k : Int) - 1).toNat = k - 1 := by omega
      simp (disch := omega) [t6, t4, t5, t0, hk0, hk0', hkp, hkp', hr2, he2, hldp, et, wrap_in]
      refine ⟨by omega, ?_⟩
      have hbk : fracB (el l (k - 1)).beat = true := (beatB_iff.1 (tempoB_iff.1 (hP.tempo (k - 1) (by omega))).1).1
      refine awCall_det' (compare_s (el l (k - 1)).beat (el l k).beat hbk f1) (by simp; omega) ?_
      by_cases f4 : cmpF (el l (k - 1)).beat (el l k).beat < 0
      case neg =>
        have e : tempB l = false := tempB_no fun hb => f4 ((tempA_iff.1 (tempB_iff.1 hb).1).2.2.2 k (by omega) hkp)
        have f4' : 0 ≤ cmpF (el l (k - 1)).beat (el l k).beat := by omega
        simp [f4, f4']
        exact PosR.no (hK.app _) e
      have f4' : ¬ 0 ≤ cmpF (el l (k - 1)).beat (el l k).beat := by omega
      have x0 : ∀ L : Mem, cellsAt (M1 ++ L) (M.length + 1) 0 2 = some [iv a.n, iv a.d] := fun L => cellsAt_app (cells_hrq hra rfl) L
      simp (disch := omega) [t6, t4, t5, t0, f4, f4', x0, wrap_in]
      have hon := posK_on hkp hP.at_
      refine awCall_det' (l17On_a (el l (k - 1)).beat (el l k).beat a (el l (k - 1)).s) (by simp; omega) ?_
      generalize onY (el l (k - 1)).beat (el l k).beat (el l (k - 1)).s a = a2 at hon ⊢
      by_cases f5 : onOk (el l (k - 1)).beat (el l k).beat (el l (k - 1)).s a = true
      case neg =>
        rw [if_neg f5] at hon
        have e : tempB l = false := tempB_no fun hb => by have := (tempB_iff.1 hb).2 k (by omega); rw [hon] at this; cases this
        simp (disch := omega) [f5]
        exact PosR.no (hK.app _) e
      rw [if_pos f5] at hon
      have hra' : ∀ L : Mem, (M1 ++ L)[M.length + 1]? = some (.live ⟨[iv a.n, iv a.d], true, true, 58, 2⟩) := fun L => by rw [List.getElem?_append_left (List.getElem?_eq_some_iff.1 hra).1]; exact hra
      simp (disch := omega) [t6, t4, t5, t0, f5, wrap_in]
      rw [put_whole (hra' _) (by omega) (by simp) (by simp)]
      simp only [ow_some]
      have hlen1 : M.length + 1 < M1.length := (List.getElem?_eq_some_iff.1 hra).1
      generalize hM2 : (M1 ++ _ : Mem) = M2
      have hS2 : Same M.length M1 M2 := by rw [← hM2]; exact Same.app' _ _ _
      have hA2 : Acc fracR 58 M.length M2 v ((posAll l).take k) := by rw [← hM2]; exact hA.keeps (keeps_app _)
      have hlen2 : M1.length ≤ M2.length := hS2.1
      have hr2 : (M2.set (M.length + 1) (.live ⟨[iv a2.n, iv a2.d], true, true, 58, 2⟩))[M.length + 1]? = some (.live ⟨[iv a2.n, iv a2.d], true, true, 58, 2⟩) := by rw [List.getElem?_set_self (by omega)]
      have hA3 := hA2.set_apart (s := .live ⟨[iv a2.n, iv a2.d], true, true, 58, 2⟩) hap
      have hS3 : Same M.length M1 (M2.set (M.length + 1) (.live ⟨[iv a2.n, iv a2.d], true, true, 58, 2⟩)) := hS2.tr (Same.setb (by omega))
      generalize M2.set (M.length + 1) (.live ⟨[iv a2.n, iv a2.d], true, true, 58, 2⟩) = M3 at hr2 hA3 hS3 ⊢
      have hc3 : cellsAt M3 (M.length + 1) 0 2 = some [iv a2.n, iv a2.d] := cells_hrq hr2 rfl
      simp (disch := omega) [t6, t4, t5, t0, hc3, wrap_in]
      have hlen3 := hS3.1
      refine Acc.append2 (R := fracR) (e := 58) (by_ := 16) (a := a2) (hA3.keeps (keeps_app _)) (Nat.le_refl _) (by simp; omega) (by omega) (by simp) (by kernel_rfl) (by simp [srcOf, fracR, Frac.row]) (by rfl) (by simp; omega) (by unfold maxLen; simp; omega) ?_
      intro v' M4 hA4 s4 ap4
      obtain ⟨hra4, hap4⟩ := ap4 (M.length + 1) _ hap (by simp only [St.M_mk]; rw [List.getElem?_append_left (List.getElem?_eq_some_iff.1 hr2).1]; exact hr2)
      refine lpI (m - 1) (by omega) ⟨k + 1, v', a2, by omega, ((hsm.tr hS3).tr (Same.app' _ _ _)).tr (by simpa using s4), ⟨?_, (fun _ => hP.first hkp), ?_, ?_, by rw [Nat.add_sub_cancel]; exact hon⟩, by rw [posAll_take (by omega) hon]; exact hA4, hap4, hra4, by simp, by simp, by simp [t5], by simp [t0]⟩
      · intro i hi
        by_cases hik : i = k
        · rw [hik]; exact htk
        · exact hP.tempo i (by omega)
      · intro i hi h0
        by_cases hik : i = k
        · rw [hik]; exact f4
        · exact hP.sort i (by omega) h0
      · intro i hi
        by_cases hik : i = k
        · rw [hik, hon]; rfl
        · exact hP.pos i (by omega)
  · obtain rfl : k = n := by omega
    simp [t6, t4, t0, hr1]
    rw [List.take_of_length_le (by rw [posAll_len]; omega)] at hA
    obtain ⟨A', q, c', rfl, hq, hsl, -⟩ := hA.sl
    rw [posAll_len] at hq
    obtain rfl : q = k := by omega
    have e : tempB l = true := TP.done (by rw [hl]; exact hP) (by rw [hl]; exact hin)
    exact PosR.yes hK e hsl
end Go.Proofs.Ytgaiejaegimilaa
