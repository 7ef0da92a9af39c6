/- The program's events of a score. No conditions. -/
import Derived.Test.YtjgfpkamoalgiaaZzS11
namespace Go.Proofs.Ytjgfpkamoalgiaa
open Go.RowKit
set_option linter.unusedVariables false
set_option linter.unusedSimpArgs false
set_option maxRecDepth 100000
attribute [local simp] List.getElem?_cons_zero
attribute [local irreducible] awCond awCall awLoop awDraw ow retQ retC resQ Keeps
theorem cells_set_d {l : List StreamEvent} {j : Nat} {x : Int} (h : j < l.length) : (cellsL streamEventR l).set (j * 5) (iv x) = cellsL streamEventR (l.set j { el l j with d := x }) := by
  have e1 : l = l.take j ++ (el l j :: l.drop (j + 1)) := by
    conv => lhs; rw [← List.take_append_drop j l, drop_el h]
  have hl : (l.take j).length = j := by simp; omega
  have e2 : l.set j { el l j with d := x } = l.take j ++ ({ el l j with d := x } :: l.drop (j + 1)) := by
    conv => lhs; rw [e1]
    rw [List.set_append_right _ _ (by omega), hl, Nat.sub_self]
    simp [hl, el_append_right]
    rw [show el (el l j :: List.drop (j + 1) l) 0 = el l j from rfl]
    exact ⟨rfl, rfl, rfl, rfl⟩
  rw [e2]
  conv => lhs; rw [e1]
  have e3 : (cellsL streamEventR (l.take j)).length = j * 5 := by rw [cellsL_len, hl]
  rw [cellsL_append, cellsL_append, cellsL_cons, cellsL_cons, List.set_append_right _ _ (by omega), e3, Nat.sub_self]
  rfl
/-- The first k events have their times, the rest still their ticks. -/
def halfE (s : List StreamEvent) (k : Nat) : List StreamEvent := dltE 0 (s.take k) ++ s.drop k
theorem halfE_len (s : List StreamEvent) {k : Nat} (hk : k ≤ s.length) : (halfE s k).length = s.length := by unfold halfE; rw [List.length_append, dltE_len, List.length_take, List.length_drop]; omega
theorem halfE_el {s : List StreamEvent} {k : Nat} (hk : k < s.length) : el (halfE s k) k = el s k := by
  have hl : (dltE 0 (s.take k)).length = k := by rw [dltE_len, List.length_take]; omega
  unfold halfE
  rw [el_append_right (by omega), hl, Nat.sub_self]
  simp [el]
theorem halfE_set {s : List StreamEvent} {k : Nat} (hk : k < s.length) : (halfE s k).set k { el s k with d := (el s k).d - lastE 0 (s.take k) } = halfE s (k + 1) := by
  have hl : (dltE 0 (s.take k)).length = k := by rw [dltE_len, List.length_take]; omega
  unfold halfE
  rw [List.set_append_right _ _ (by omega), hl, Nat.sub_self, take_el hk, (dltE_snoc _ _ _).1, drop_el hk]
  simp
theorem ev_two (a b : StreamEvent) : Instr.fill (fun i => some (i * 5, 5)) (zrow [iv 0, iv 0, iv 0, iv 0, iv 0] 2).toArray [(0, .agg #[iv a.d, iv a.j, iv a.o, iv a.k, iv a.u]), (1, .agg #[iv b.d, iv b.j, iv b.o, iv b.k, iv b.u])] = some #[iv a.d, iv a.j, iv a.o, iv a.k, iv a.u, iv b.d, iv b.j, iv b.o, iv b.k, iv b.u] := fill_two (by omega) rfl rfl rfl
theorem ev_build5 (a b c d e : Int) : Instr.fill (fun x => [(0, 1), (1, 1), (2, 1), (3, 1), (4, 1)][x]?) #[iv 0, iv 0, iv 0, iv 0, iv 0] [(0, iv a), (1, iv b), (2, iv c), (3, iv d), (4, iv e)] = some #[iv a, iv b, iv c, iv d, iv e] := by rfl
theorem ev_oneE (l : List StreamEvent) : (cellsL streamEventR l).all (fun u => u.oneCell') = true := by
  rw [List.all_eq_true]
  intro v hv
  induction l with
  | nil => simp [cellsL_nil] at hv
  | cons a l ih =>
    rw [cellsL_cons] at hv
    rcases List.mem_append.1 hv with h | h
    · simp only [streamEventR, StreamEvent.row, List.mem_cons, List.not_mem_nil, or_false] at h
      rcases h with rfl | rfl | rfl | rfl | rfl <;> rfl
    · exact ih h
set_option maxHeartbeats 4000000 in
theorem StreamOfScore_i {M : Mem} {A : Option Addr} {n c : Nat} {l : List Note} (D : Int) (h : Sl noteR M A n l) (hn : n ≤ 1048576) :
    Ctr Try.prog M.length 7 [.agg #[.slice A n c], iv D] M (StR M (stV l D)) := by
  have hl := h.1
  first | (refine ctr_fn Try.func7 rfl Try.ntmps7 Try.results7 rfl rfl (by simp) ?_) | (refine ctr_fnC Try.func7 rfl Try.ntmps7 Try.results7 rfl (by simp) ?_)
  simp
  obtain ⟨M0, hM0⟩ : ∃ M0 : Mem, M0 = M ++ [Slot.live ⟨[.slice A n c], true, true, 31, 1⟩] := ⟨_, rfl⟩
  rw [← hM0]
  have k0 : Keeps M M0 := by rw [hM0]; exact keeps_app _
  have l0 : M0.length = M.length + 1 := by rw [hM0]; simp
  have b0 : cellAt M0 M.length 0 = some (.slice A n c) := by rw [hM0]; simp
  clear hM0
  refine awCall_det' (isScore_i (c := c) (h.keeps k0) (by omega)) (by omega) ?_
  by_cases hs : scoreB l = true
  case neg =>
    have e : stV l D = ([], 1) := by unfold stV; rw [if_pos (by simpa using hs)]
    rw [e]
    simp [hs]
    exact StR.no k0
  simp [hs]
  refine awCall_det' (within_a D 1 960) (by omega) ?_
  by_cases hD0 : inB D 1 960 = true
  case neg =>
    have e : stV l D = ([], 2) := by unfold stV; rw [if_neg (by simp [hs]), if_pos (by simpa using hD0)]
    rw [e]
    simp [hD0]
    exact StR.no k0
  have hD := inB_iff.1 hD0
  have hsB := hs
  unfold scoreB at hsB
  simp only [Bool.and_eq_true, decide_eq_true_eq] at hsB
  obtain ⟨⟨hl60, hv⟩, ho⟩ := hsB
  have b00 : cellAt (M0 ++ [Slot.live ⟨[], true, true, 53, 5⟩]) M.length 0 = some (.slice A n c) := cellAt_keeps (keeps_app _) b0
  simp [hD0, b0, b00]
  refine awLoop_joinR (fun T' M' => ∃ v : Value, Keeps M0 M' ∧ Acc streamEventR 53 M0.length M' v (evsL D l) ∧ (∃ id n c, v = .slice (some ⟨id, 0, none⟩) n c) ∧ l.all (okT D) = true ∧ look T' 6 = some v ∧ look T' 2 = some (.pointer (some ⟨M.length, 0, none⟩))) ?_ ?_
  · intro Q' hQ hR
    refine awLoop_T (fun m T M' => ∃ (k : Nat) (v : Value), k + m = n ∧ Keeps M0 M' ∧ Acc streamEventR 53 M0.length M' v (evsL D (l.take k)) ∧ (∃ id n c, v = .slice (some ⟨id, 0, none⟩) n c) ∧ (∀ i, i < k → okT D (el l i) = true) ∧ look T 26 = some (iv k) ∧ look T 25 = some (iv n) ∧ look T 24 = some (.slice A n c) ∧ look T 6 = some v ∧ look T 2 = some (.pointer (some ⟨M.length, 0, none⟩)) ∧ look T 1 = some (iv D)) n
      ⟨0, _, by omega, keeps_app _, ⟨_, 0, 0, rfl, rfl, .inr ⟨M0.length, true, rfl, Nat.le_refl _, by rw [getElem?_snoc_eq]; rfl⟩⟩, ⟨_, _, _, rfl⟩, fun i hi => by omega, by simp, by simp, by simp, by simp, by simp, by simp⟩ ?_
    rintro m T M1 ⟨k, v, hm, kM, hA, ⟨vid, vn, vc, rfl⟩, hok, t26, t25, t24, t6, t2, t1⟩
    have n1 := kM.len
    by_cases hlt : k < n
    case neg =>
      obtain rfl : k = n := by omega
      rw [List.take_of_length_le (by omega)] at hA
      simp (disch := omega) [t26, t25]
      refine hQ _ _ ⟨_, kM, hA, ⟨_, _, _, rfl⟩, ?_, by simp [t6], by simp [t2]⟩
      rw [List.all_eq_true]
      intro x hx
      obtain ⟨i, hi, rfl⟩ := List.getElem_of_mem hx
      rw [el_eq hi]
      exact hok i (by omega)
    have hlt' : (k : Int) < n := by omega
    obtain ⟨id, off, rfl, hz, hc⟩ := (h.keeps (k0.trans kM)).at_ hlt
    have ld := note_load hc
    have hnb := all_el hv (i := k) (by omega)
    obtain ⟨f1, f2, z1, z2⟩ := note_nn hnb
    have hkl : (evsL D (l.take k)).length ≤ 120 := by rw [evsL_len, List.length_take]; omega
    simp (disch := omega) [t26, t25, t24, hlt, hlt', hz, ld]
    obtain ⟨M2, hM2⟩ : ∃ M2 : Mem, M2 = M1 ++ [Slot.live ⟨[iv (el l k).an, iv (el l k).ad, iv (el l k).ln, iv (el l k).ld, iv (el l k).k, iv (el l k).u, iv (el l k).o], true, true, 47, 7⟩] := ⟨_, rfl⟩
    rw [← hM2]
    have k12 : Keeps M1 M2 := by rw [hM2]; exact keeps_app _
    have n2 : M2.length = M1.length + 1 := by rw [hM2]; simp
    have bx : Cl M2 M1.length 0 (el l k).row := fun j x hx => by rw [hM2]; simp [cellAt]; exact hx
    clear hM2
    obtain ⟨g0, -⟩ := note_cellsN bx
    obtain ⟨-, -, -, -, a4, a5, a6⟩ := note_cells bx
    have ld2 := note_load bx
    simp only [Nat.zero_add] at a4 a5 a6
    simp (disch := omega) [g0, t1]
    refine awCall_det' (tick_i (f := (el l k).at_) f1 z1 hD) (by omega) ?_
    simp (disch := omega) [ld2, t1]
    refine awCall_det' (end_i (el l k)) (by omega) ?_
    try simp (disch := omega) [t1]
    refine awCall_det' (tick_i (f := (el l k).fin) f2 z2 hD) (by omega) ?_
    have hno : okT D (el l k) = false → stV l D = ([], 6) := fun hh => by
      unfold stV
      rw [if_neg (by simp [hs]), if_neg (by simp [hD0]), if_pos]
      rw [List.all_eq_false]
      exact ⟨el l k, el_mem (by omega), by simp [hh]⟩
    by_cases b1 : tkB D (el l k).at_ = true
    case neg =>
      rw [hno (by unfold okT; simp [b1])] at hR
      simp (disch := omega) [b1]
      refine hR _ ?_
      simp
      exact StR.no ((k0.trans kM).trans k12)
    by_cases b2 : tkB D (el l k).fin = true
    case neg =>
      rw [hno (by unfold okT; simp [b2])] at hR
      simp (disch := omega) [b1, b2]
      refine hR _ ?_
      simp
      exact StR.no ((k0.trans kM).trans k12)
    have e2 := ev_two (onE D (el l k)) (ofE D (el l k))
    simp only [onE, ofE] at e2
    simp (disch := omega) [b1, b2, t6, a4, a5, a6, ev_build5, e2]
    refine ((hA.keeps k12).keeps (keeps_app _)).extend (ls := [onE D (el l k), ofE D (el l k)]) (by_ := 40) (by omega) (by simp; omega) (by kernel_rfl) (by kernel_rfl) ?_ (ev_oneE _) (by simp; omega) (by unfold maxLen; simp; omega) ?_
    · have := cells_hrE (M := M2 ++ [Slot.live ⟨[iv (tkV D (el l k).at_), iv 1, iv (el l k).o, iv (el l k).k, iv (el l k).u, iv (tkV D (el l k).fin), iv 2, iv (el l k).o, iv (el l k).k, iv 0], true, true, 53, 5⟩]) (id := M2.length) (n := 10) getElem?_snoc_eq rfl
      simp [srcOf, cellsL_cons, cellsL_nil, streamEventR, StreamEvent.row, onE, ofE, this]
    intro v' M3 hA3 s3
    have k3 := s3.keeps ((kM.trans k12).trans (keeps_app _)) (Nat.le_refl _)
    have hv' : ∃ id n c, v' = .slice (some ⟨id, 0, none⟩) n c := by
      obtain ⟨A', n', c', rfl, hl', hA'⟩ := hA3
      rcases hA' with ⟨_, h0, _⟩ | ⟨id', t', rfl, _, _⟩
      · simp at hl'; omega
      · exact ⟨_, _, _, rfl⟩
    simp (disch := omega) [t26, wrap_in]
    refine lpI (m - 1) (by omega) ⟨k + 1, v', by omega, k3, ?_, hv', fun i hi => ?_, by simp, by simp [t25], by simp [t24], by simp, by simp [t2], by simp [t1]⟩
    · rw [evsL_take (by omega), List.append_assoc]
      exact hA3
    · by_cases hik : i = k
      · rw [hik]; unfold okT; simp [b1, b2]
      · exact hok i (by omega)
  rintro T0 M1 ⟨v, kM, hA, ⟨id, vn, vc, rfl⟩, hok, s6, s2⟩
  have bM := cellAt_keeps kM b0
  have h1 := h.keeps (k0.trans kM)
  have n1 := kM.len
  simp (disch := omega) [s2, bM]
  refine awCall_det' (overlap_i (c := c) h1 hn hv) (by omega) ?_
  by_cases hh : hitB l = true
  · have e : stV l D = ([], 4) := by
      unfold stV
      rw [if_neg (by simp [hs]), if_neg (by simp [hD0]), if_neg (by simp [hok]), if_pos hh]
    rw [e]
    simp (disch := omega) [hh]
    exact StR.no (k0.trans kM)
  have hh' : hitB l = false := by simpa using hh
  have e : stV l D = (dltE 0 (sortE (evsL D l)), 0) := by
    unfold stV
    rw [if_neg (by simp [hs]), if_neg (by simp [hD0]), if_neg (by simp [hok]), if_neg hh]
  rw [e]
  simp (disch := omega) [hh, s6]
  obtain ⟨_, _, _, e3, hvn, hr⟩ := (show Acc streamEventR 53 M0.length M1 _ (evsL D l) from hA)
  injection e3 with e31 e32 e33
  subst e31; subst e32; subst e33
  rcases hr with ⟨h0, _⟩ | ⟨id', t, e4, hid, hrow⟩
  · cases h0
  injection e4 with e4
  injection e4 with e4
  subst e4
  have hDp : 0 < D := by omega
  have hvl : (evsL D l).length ≤ 120 := by rw [evsL_len]; omega
  refine awCall_ctr ((Sort_a (b := M.length) (c := vc) hvn hid hrow (by omega) (by omega) fun x hx => ?_)) ?_
  · obtain ⟨q1, q2, q3, q4⟩ := evs_ok hv hD x hx
    unfold kdB at q1
    unfold evK
    omega
  rintro r M2 ⟨rfl, l', hp, hs', rfl⟩
  have hl' : l' = sortE (evsL D l) := sort_one l' (sortE (evsL D l)) (hp.trans (sortE_perm _).symm) hs' (sortE_sorted _) fun x y hx hy => evs_one (tkS_of hs hDp hok hh') x y (hp.mem_iff.1 hx) (hp.mem_iff.1 hy)
  subst hl'
  have hbd : ∀ x, x ∈ sortE (evsL D l) → 0 ≤ x.d ∧ x.d ≤ 960000000000 := fun x hx => (evs_ok hv hD x ((sortE_perm _).mem_iff.1 hx)).2.1
  have hsl : (sortE (evsL D l)).length = vn := by rw [(sortE_perm _).length_eq, hvn]
  have hvn120 : vn ≤ 120 := by omega
  generalize sortE (evsL D l) = srt at hbd hsl
  have hidl := (List.getElem?_eq_some_iff.1 hrow).1
  have half0 : halfE srt 0 = srt := by simp [halfE, dltE]
  refine awLoop_T (fun m T M' => ∃ k : Nat, k + m = vn ∧ M' = M1.set id (.live ⟨cellsL streamEventR (halfE srt k), true, t, 53, 5⟩) ∧ look T 75 = some (iv k) ∧ look T 74 = some (iv vn) ∧ look T 13 = some (iv (lastE 0 (srt.take k))) ∧ look T 6 = some (.slice (some ⟨id, 0, none⟩) vn vc)) vn ⟨0, by omega, by rw [half0], by simp, by simp, by simp [lastE], by simp [s6]⟩ ?_
  rintro m T M' ⟨k, hm, rfl, t75, t74, t13, t6⟩
  have row : (M1.set id (.live ⟨cellsL streamEventR (halfE srt k), true, t, 53, 5⟩))[id]? = some (.live ⟨cellsL streamEventR (halfE srt k), true, t, 53, 5⟩) := List.getElem?_set_self hidl
  by_cases hlt : k < vn
  case neg =>
    obtain rfl : k = vn := by omega
    have hE : halfE srt k = dltE 0 srt := by unfold halfE; rw [List.take_of_length_le (by omega), List.drop_of_length_le (by omega), List.append_nil]
    rw [hE] at row ⊢
    simp (disch := omega) [t75, t74, t6]
    have hW : Acc streamEventR 53 M.length (M1.set id (.live ⟨cellsL streamEventR (dltE 0 srt), true, t, 53, 5⟩)) (.slice (some ⟨id, 0, none⟩) k vc) (dltE 0 srt) := ⟨_, k, vc, rfl, by rw [dltE_len]; omega, .inr ⟨id, t, rfl, by omega, row⟩⟩
    have hf := hW.fresh (by rw [dltE_len]; omega) (keeps_set (k0.trans kM) (by omega))
    exact ⟨_, rfl, hf.ow.1, hf.ow.2⟩
  have hlt' : (k : Int) < vn := by omega
  have hx := hbd _ (el_mem (l := srt) (i := k) (by omega))
  have hlast := lastE_bd (l := srt.take k) (fun x hx => hbd x (List.mem_of_mem_take hx)) 0 (by omega)
  have hhl := halfE_len srt (k := k) (by omega)
  have hz : rowEsz (M1.set id (.live ⟨cellsL streamEventR (halfE srt k), true, t, 53, 5⟩)) id = some 5 := by simp [rowEsz, row]
  have c0 : cellAt (M1.set id (.live ⟨cellsL streamEventR (halfE srt k), true, t, 53, 5⟩)) id (k * 5) = some (iv (el srt k).d) := by
    have := cellsL_get streamEventR (l := halfE srt k) (i := k) (j := 0) (by omega) (by omega)
    rw [Nat.add_zero, halfE_el (by omega)] at this
    unfold cellAt
    rw [row]
    exact this
  have pb := put_rowE (b := M.length) (p := k * 5) (v := iv ((el srt k).d - lastE 0 (srt.take k))) row (by omega) (by rw [cellsL_len]; omega) rfl
  rw [cells_set_d (by omega), halfE_el (by omega), halfE_set (by omega), List.set_set] at pb
  have hsn := (dltE_snoc (srt.take k) 0 (el srt k)).2
  rw [← take_el (show k < srt.length by omega)] at hsn
  generalize hMk : M1.set id (.live ⟨cellsL streamEventR (halfE srt k), true, t, 53, 5⟩) = Mk at row hz c0 pb
  simp (disch := omega) [t75, t74, t6, t13, hlt, hlt', hz, c0, pb, wrap_in]
  exact lpI (m - 1) (by omega) ⟨k + 1, by omega, rfl, by simp (disch := omega) [wrap_in], by simp [t74], by rw [hsn]; simp, by simp [t6]⟩
theorem StreamOfScore_sl {M : Mem} {v : Value} {lo hi : Nat} {l : List Note} (hx : RdL noteR lo hi M v l) (o : Int) (ex : l.length ≤ 1048576) : Ctr Try.prog M.length 5 [.agg #[v], iv o] M fun r M' => ∃ v0, r = .tuple #[v0, iv (stV l o).2] ∧ OwL streamEventR M.length M'.length M' v0 (stV l o).1 ∧ Keeps M M' := by
  obtain ⟨A, n, c, rfl, hn, hS, _⟩ := hx
  exact StreamOfScore_s o hS (by have := hS.1; omega)
theorem StreamOfScore_il {M : Mem} {v : Value} {lo hi : Nat} {l : List Note} (hx : RdL noteR lo hi M v l) (o : Int) (ex : l.length ≤ 1048576) : Ctr Try.prog M.length 7 [.agg #[v], iv o] M fun r M' => ∃ v0, r = .tuple #[v0, iv (stV l o).2] ∧ OwL streamEventR M.length M'.length M' v0 (stV l o).1 ∧ Keeps M M' := by
  obtain ⟨A, n, c, rfl, hn, hS, _⟩ := hx
  exact StreamOfScore_i o hS (by have := hS.1; omega)
end Go.Proofs.Ytjgfpkamoalgiaa
