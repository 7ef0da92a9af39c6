/- Parts of the proof, together: Items are folded: the program's. Draws: items, with groups. Draws: items without groups. Valid items without groups, out of a code. What items play: the program's. No conditions. -/
import Derived.Test.YtodbjnngkonklaaGreatZzI16
import Derived.Test.YtodbjnngkonklaaGreatZzI12
namespace Go.Proofs.YtodbjnngkonklaaGreat
open Go.RowKit
set_option linter.unusedVariables false
set_option linter.unusedSimpArgs false
set_option maxRecDepth 100000
attribute [local simp] List.getElem?_cons_zero
attribute [local irreducible] awCond awCall awLoop awDraw ow retQ retC resQ Keeps
set_option maxHeartbeats 2000000 in
theorem indexFunc_i {M : Mem} {A : Option Addr} {q c lo hi : Nat} {l : List Item} (h : SlP itemP lo hi M A q l) (hq : q ≤ 80) (hg : ∀ x, x ∈ l → grpB x = false) : Det Tryz.prog M.length 65 [.slice A q c, Value.func (Fn.func 33) #[] #[]] M (iv (-1)) M := by
  have hl := h.1
  first | (refine det_fn Tryz.func65 rfl Tryz.ntmps65 Tryz.results65 rfl rfl rfl (by simp) ?_) | (refine det_fnC Tryz.func65 rfl Tryz.ntmps65 Tryz.results65 rfl rfl (by simp) ?_)
  simp
  refine awLoop_T (fun m T M' => ∃ i : Nat, i + m = q ∧ Keeps M M' ∧ look T 8 = some (iv i) ∧ look T 7 = some (iv q) ∧ look T 6 = some (.slice A q c) ∧ look T 0 = some (.slice A q c) ∧ look T 1 = some (Value.func (Fn.func 33) #[] #[])) q ⟨0, by omega, Keeps.refl _, by simp, by simp, by simp, by simp, by simp⟩ ?_
  rintro m T M1 ⟨i, hm, hK, t8, t7, t6, t0, t1⟩
  have hKl := hK.len
  by_cases hlt : i < q
  case neg =>
    obtain rfl : i = q := by omega
    simp (disch := omega) [t8, t7, t6, hK]
  have hlt' : (i : Int) < q := by omega
  obtain ⟨id, off, us, rfl, he, hrd, hc⟩ := (h.keeps hK).at_ hlt
  have c8 := cellsAt_of (n := 8) hc (itemP.len hrd) (by omega)
  simp (disch := omega) [t8, t7, t6, t0, t1, hlt, hlt', he, c8]
  refine awCall_det' (isGroup_i hrd) (by omega) ?_
  simp (disch := omega) [hg _ (el_mem (show i < l.length by omega)), t8, wrap_in]
  exact lpI (m - 1) (by omega) ⟨i + 1, by omega, hK, by simp, by simp [t7], by simp [t6], by simp [t0], by simp [t1]⟩
theorem containsFunc_i {M : Mem} {A : Option Addr} {q c lo hi : Nat} {l : List Item} (h : SlP itemP lo hi M A q l) (hq : q ≤ 80) (hg : ∀ x, x ∈ l → grpB x = false) : Det Tryz.prog M.length 32 [.slice A q c, Value.func (Fn.func 33) #[] #[]] M (.bool false) M := by
  first | (refine det_fn Tryz.func32 rfl Tryz.ntmps32 Tryz.results32 rfl rfl rfl (by simp) ?_) | (refine det_fnC Tryz.func32 rfl Tryz.ntmps32 Tryz.results32 rfl rfl (by simp) ?_)
  simp
  refine awCall_det' (indexFunc_i h hq hg) (by omega) ?_
  simp [Keeps.refl]
theorem bld_rep (a b : Int) : Instr.fill (fun x => [(0, 1), (1, 1), (2, 2), (4, 1), (5, 2), (7, 1)][x]?) #[iv 0, .slice none 0 0, iv 0, iv 0, iv 0, iv 0, iv 0, iv 0] [(0, iv 4), (3, iv a), (5, iv b)] = some #[iv 4, .slice none 0 0, iv 0, iv 0, iv a, iv 0, iv 0, iv b] := by rfl
set_option maxHeartbeats 4000000 in
theorem FoldItems_i {M : Mem} {A : Option Addr} {q c lo hi : Nat} {l : List Item} (h : SlP itemP lo hi M A q l) (hn : q ≤ 80) (hok : okI l = true) (hg : ∀ x, x ∈ l → grpB x = false) : Ctr Tryz.prog M.length 9 [.slice A q c] M fun r M' => ∃ v o, r = .tuple #[v, iv 0] ∧ Keeps M M' ∧ FoG l o ∧ Tab itN M.length M' v o := by
  have hl := h.1
  have h2 := hok
  unfold okI at h2
  simp only [Bool.and_eq_true, decide_eq_true_eq] at h2
  have hB : ∀ x, x ∈ l → itemB x = true := fun x hx => by
    have := scanI_all l.length 3 l (Nat.le_refl _) h2.2 x hx
    unfold itemI at this
    rw [Bool.and_eq_true] at this
    exact this.1
  first | (refine ctr_fn Tryz.func9 rfl Tryz.ntmps9 Tryz.results9 rfl rfl (by simp) ?_) | (refine ctr_fnC Tryz.func9 rfl Tryz.ntmps9 Tryz.results9 rfl (by simp) ?_)
  simp
  refine awCall_det' (areItems_i h (by omega)) (by omega) ?_
  simp [hok]
  refine awCall_det' (containsFunc_i h hn hg) (by omega) ?_
  simp
  refine awLoop_T (fun m T M' => ∃ (i : Nat) (ps : List (Item × Value)) (v : Value), i + m = q ∧ Keeps M M' ∧ TabP itN M.length M' v ps ∧ FoG (l.take i) (ps.map (·.1)) ∧ look T 5 = some (iv i) ∧ look T 4 = some v ∧ look T 0 = some (.slice A q c)) q ⟨0, [], _, by omega, keeps_app _, TabP.box (N := itN) (t := true) (Nat.le_refl _) (by simp [itN]), .nil, by simp, by simp, by simp⟩ ?_
  rintro m T M1 ⟨i, ps, v, hm, hK, hT, hF, t5, t4, t0⟩
  have hKl := hK.len
  have hfl := fog_len hF
  rw [List.length_map, List.length_take] at hfl
  by_cases hlt : i < q
  case neg =>
    obtain rfl : i = q := by omega
    rw [List.take_of_length_le (by omega)] at hF
    simp (disch := omega) [t5, t4, t0]
    exact ⟨hK, _, hF, ps, rfl, hT⟩
  have hlt' : (i : Int) < q := by omega
  have hpart := (h.keeps hK)
  obtain ⟨id, off, us0, rfl, he, -, -⟩ := (h.keeps hK).at_ hlt
  have hpt := (h.keeps hK).part (a := i) (b := q) (by omega) (Nat.le_refl _)
  simp (disch := omega) [t5, t4, t0, hlt, hlt', he]
  refine ⟨by omega, ?_⟩
  have hdr : (l.drop i).take (q - i) = l.drop i := List.take_of_length_le (by rw [List.length_drop]; omega)
  rw [hdr] at hpt
  refine awCall_ctr ((bestRepeat_i (c := q - i) hpt (by omega)).weaken (by omega)) ?_
  rintro _ M2 ⟨n, p, rfl, hbest, hp80, k12⟩
  have n2 := k12.len
  simp (disch := omega)
  obtain ⟨g, hgd⟩ : ∃ g : Nat, g = if 0 < n then p else 1 := ⟨_, rfl⟩
  refine awCond_join (fun T' M' => ∃ v' ps', Keeps M M' ∧ TabP itN M.length M' v' ps' ∧ ps'.map (·.1) = ps.map (·.1) ++ (if 0 < n then [repI n p] else []) ∧ look T' 8 = some (iv g) ∧ look T' 6 = some (iv n) ∧ look T' 5 = some (iv i) ∧ look T' 4 = some v' ∧ look T' 0 = some (.slice (some ⟨id, off, none⟩) q c)) ?_ ?_ ?_
  · intro Q' hQ hb
    have hn0 : 0 < n := by simpa using hb
    rw [if_pos hn0] at hgd
    subst hgd
    simp (disch := omega) [t4]
    rw [bld_rep, ow_some]
    simp (disch := omega) [t4]
    rw [fill_oneIt, ow_some]
    simp (disch := omega) [t4]
    have kx : Keeps M2 (M2 ++ [Slot.live ⟨[iv 4, .slice none 0 0, iv 0, iv 0, iv n, iv 0, iv 0, iv g], true, true, 60, 8⟩]) := keeps_app _
    refine TabP.snoc (p := (repI n g, .slice none 0 0)) (by_ := 80) ((hT.keeps k12).keeps kx) (by omega) (by simp; omega) (by simp [itN]) (by kernel_rfl) (by simp [srcOf, Tryz.underlying29, itN, repI, cellsAt]) (by rfl) .nil sep_nil (by omega) (by unfold maxLen; omega) ?_
    intro v' M' g1 g2 g3
    try simp (disch := omega)
    refine hQ _ _ ⟨v', _, g2.keeps ((hK.trans k12).trans kx) (Nat.le_refl _), g1, by rw [if_pos hn0]; simp, by simp, by simp, by simp [t5], by simp, by simp [t0]⟩
  · intro Q' hQ hb
    have hn0 : ¬ 0 < n := by simpa using hb
    rw [if_neg hn0] at hgd
    subst hgd
    try simp
    refine hQ _ _ ⟨v, ps, hK.trans k12, hT.keeps k12, by rw [if_neg hn0, List.append_nil], by simp, by simp, by simp [t5], by simp [t4], by simp [t0]⟩
  clear t5 t4 t0
  rintro T3 M3 ⟨v3, ps3, hK3, hT3, hm3, t8, t6, t5, t4, t0⟩
  have hbd : 1 ≤ g ∧ i + g ≤ q ∧ (0 < n → i + n * g ≤ q) := by
    rcases hbest with h0 | ⟨h1, h2, h3, h4, h5, h6⟩
    · rw [h0] at hgd
      rw [if_neg (by omega)] at hgd
      omega
    · rw [if_pos (by omega)] at hgd
      subst hgd
      rw [List.length_drop] at h4
      omega
  have hgi : ((i : Int) + g).toNat - i = g := by omega
  have he3 := rowEsz_keeps hK3 (by obtain ⟨_, _, _, e', h', -, -⟩ := h.at_ hlt; cases e'; exact h')
  have hK3l := hK3.len
  have hps3 := congrArg List.length hm3
  rw [List.length_map, List.length_append, List.length_map] at hps3
  have hps3b : ps3.length ≤ q + 1 := by
    split at hps3 <;> simp at hps3 <;> omega
  simp (disch := omega) [t8, t6, t5, t4, t0, wrap_in, he3]
  refine ⟨by omega, ?_⟩
  rw [hgi]
  refine awLoop_T (fun m T M' => ∃ (k : Nat) (v : Value) (ps' : List (Item × Value)), k + m = g ∧ Keeps M M' ∧ TabP itN M.length M' v ps' ∧ ps'.map (·.1) = ps3.map (·.1) ++ (l.drop i).take k ∧ look T 44 = some (iv k) ∧ look T 43 = some (iv g) ∧ look T 42 = some (.slice (some ⟨id, off + i * 8, none⟩) g g) ∧ look T 8 = some (iv g) ∧ look T 6 = some (iv n) ∧ look T 5 = some (iv i) ∧ look T 4 = some v ∧ look T 0 = some (.slice (some ⟨id, off, none⟩) q c)) g
    ⟨0, v3, ps3, by omega, hK3, hT3, by simp, by simp, by simp, by simp, by simp [t8], by simp [t6], by simp [t5], by simp [t4], by simp [t0]⟩ ?_
  clear t8 t6 t5 t4 t0 hT3 hK3 hK3l he3
  rintro m4 T4 M4 ⟨k, v4, ps4, hm4, hK4, hT4, hp4, t44, t43, t42, t8, t6, t5, t4, t0⟩
  have hK4l := hK4.len
  have hp4l := congrArg List.length hp4
  rw [List.length_map, List.length_append, List.length_map, List.length_take, List.length_drop] at hp4l
  by_cases hk : k < g
  case neg =>
    obtain rfl : k = g := by omega
    simp (disch := omega) [t44, t43, t42, t8, t6, t5, wrap_in]
    have hitem : ∀ x, x ∈ (l.drop i).take k → grpB x = false := fun x hx => hg x (List.mem_of_mem_drop (List.mem_of_mem_take hx))
    rcases hbest with h0 | ⟨b1, b2, b3, b4, b5, b6⟩
    · subst h0
      rw [if_neg (by omega)] at hgd hm3
      subst hgd
      rw [List.append_nil] at hm3
      have e1 : (if (1 : Int) < ((0 : Nat) : Int) then ((0 : Nat) : Int) else 1) * ((1 : Nat) : Int) = 1 := by decide
      rw [e1, show IntKind.i64.wrap 1 = 1 from wrap_in (by omega) (by omega), wrap_in (by omega) (by omega)]
      refine lpI (m - 1) (by omega) ⟨i + 1, ps4, v4, by omega, hK4, hT4, ?_, by simp, by simp [t4], by simp [t0]⟩
      have hd1 : (l.drop i).take 1 = [el l i] := by rw [drop_el (by omega)]; rfl
      rw [hp4, hm3, hd1, take_el (by omega)]
      exact .one hF (hg _ (el_mem (by omega)))
    · have hn0 : 0 < n := by omega
      rw [if_pos hn0] at hgd hm3
      subst hgd
      obtain ⟨y, hy⟩ : ∃ y : Nat, n * k = y := ⟨_, rfl⟩
      have hyi : (n : Int) * (k : Int) = (y : Int) := by rw [← hy, Int.natCast_mul]
      have hni := hbd.2.2 hn0
      rw [List.length_drop] at b4
      rw [if_pos (show (1 : Int) < (n : Int) by omega), hyi]
      rw [show IntKind.i64.wrap (y : Int) = (y : Int) from wrap_in (by omega) (by omega), wrap_in (by omega) (by omega)]
      have hy1 : k + 1 < y := by omega
      refine lpI (m - y) (by omega) ⟨i + y, ps4, v4, by omega, hK4, hT4, ?_, by simp, by simp [t4], by simp [t0]⟩
      have hbl : ((l.drop i).take k).length = k := by rw [List.length_take, List.length_drop]; omega
      have hper := periodic (l := l.drop i) b3 n (by rw [List.length_drop]; omega) b6
      rw [List.take_add, ← hy, hper, hp4, hm3]
      have := FoG.rep (n := n) (b := (l.drop i).take k) hF b1 b2 (by omega) (by rw [hbl]; omega) hitem
      rw [hbl] at this
      simpa using this
  have hk' : (k : Int) < g := by omega
  obtain ⟨_, _, us, e', he4, hrd, hc⟩ := (h.keeps hK4).at_ (i := i + k) (by omega)
  cases e'
  obtain ⟨A1, n1, c1', hu, hus, -, -, -, -, -, -, c8⟩ := item_cells hrd hc
  subst hus
  obtain ⟨y, hy⟩ : ∃ y, y = el l (i + k) := ⟨_, rfl⟩
  rw [← hy] at c8 hu hrd
  have hyB := hB y (by rw [hy]; exact el_mem (by omega))
  have hy6 := itemB_ps hyB
  rw [show off + (i + k) * 8 = off + i * 8 + k * 8 by omega] at c8
  have hps : y.ps.length = n1 ∧ Sl pitchR M4 A1 n1 y.ps := by
    obtain ⟨_, _, _, e', g1, g2, g3⟩ := hu
    cases e'
    exact ⟨g3.1, g3.sl⟩
  simp (disch := omega) [t44, t43, t42, hk, hk', he4, c8]
  obtain ⟨M6, hM6⟩ : ∃ M6 : Mem, M6 = M4 ++ [Slot.live ⟨[iv y.j, .slice A1 n1 c1', iv y.ln, iv y.ld, iv y.x, iv y.mt, iv y.mh, iv y.z], true, true, 60, 8⟩] := ⟨_, rfl⟩
  have k56 : Keeps M4 M6 := by rw [hM6]; exact keeps_app _
  have l6 : M6.length = M4.length + 1 := by rw [hM6]; simp
  have r6 : M6[M4.length]? = some (.live ⟨[iv y.j, .slice A1 n1 c1', iv y.ln, iv y.ld, iv y.x, iv y.mt, iv y.mh, iv y.z], true, true, 60, 8⟩) := by rw [hM6]; simp
  rw [← hM6]
  clear hM6
  refine awCall_ctr ((ClonePitch_a (hps.2.keeps k56) (by omega)).weaken (by omega)) ?_
  rintro w M7 ⟨hw7, k67⟩
  have n7 := k67.len
  have r7 := k67.get r6
  obtain ⟨A5, n5, c5, rfl, hn5, -, -⟩ := hw7.sl
  have hp := put_splice (b := M.length) (p := 1) (vs := [.slice A5 n5 c5]) r7 (by omega) (by simp) (by simp)
  simp only [splice_cons, splice_nil, List.set_cons_succ, List.set_cons_zero] at hp
  simp (disch := omega) [hp, t4]
  obtain ⟨M8, hM8⟩ : ∃ M8 : Mem, M8 = M7.set M4.length (.live ⟨[iv y.j, .slice A5 n5 c5, iv y.ln, iv y.ld, iv y.x, iv y.mt, iv y.mh, iv y.z], true, true, 60, 8⟩) := ⟨_, rfl⟩
  have l7 := (List.getElem?_eq_some_iff.1 r7).1
  have k58 : Keeps M4 M8 := by rw [hM8]; exact (Same.set (B := M4.length) (Nat.le_refl _)).keeps (k56.trans k67) (Nat.le_refl _)
  have b88 : cellsAt M8 M4.length 0 8 = some [iv y.j, .slice A5 n5 c5, iv y.ln, iv y.ld, iv y.x, iv y.mt, iv y.mh, iv y.z] := by rw [hM8]; exact cells_hrq (List.getElem?_set_self l7) rfl
  have hw8 : Acc pitchR 62 M6.length M8 (.slice A5 n5 c5) y.ps := by rw [hM8]; exact hw7.set_ne (by omega)
  rw [← hM8]
  clear hM8 hp
  rw [b88, ow_some, fill_oneIt, ow_some]
  simp (disch := omega) [t4]
  have kx : Keeps M8 (M8 ++ [Slot.live ⟨[iv y.j, .slice A5 n5 c5, iv y.ln, iv y.ld, iv y.x, iv y.mt, iv y.mh, iv y.z], true, true, 60, 8⟩]) := keeps_app _
  have k58l := k58.len
  refine TabP.snoc (p := (y, .slice A5 n5 c5)) (by_ := 80) (hT4.keeps (k58.trans kx)) (by omega) (by simp; omega) (by simp [itN]) (by kernel_rfl) (by simp [srcOf, Tryz.underlying29, itN, cellsAt]) (by rfl) ((hw8.keeps kx).low (by omega)) (hw8.sep_new hT4.1 (by omega)).symm (by omega) (by unfold maxLen; omega) ?_
  intro v' M9 g1 g2 g3
  simp (disch := omega) [t44, wrap_in]
  refine lpI (m4 - 1) (by omega) ⟨k + 1, v', _, by omega, g2.keeps ((hK4.trans k58).trans kx) (Nat.le_refl _), g1, ?_, by simp, by simp [t43], by simp [t42], by simp [t8], by simp [t6], by simp [t5], by simp, by simp [t0]⟩
  rw [List.map_append, hp4, take_el (by rw [List.length_drop]; omega), List.map_singleton, List.append_assoc]
  congr 2
  rw [hy]
  simp [el]
end Go.Proofs.YtodbjnngkonklaaGreat

namespace Go.Proofs.YtodbjnngkonklaaGreat
open Go.RowKit
set_option linter.unusedVariables false
set_option linter.unusedSimpArgs false
set_option maxRecDepth 100000
attribute [local simp] List.getElem?_cons_zero
attribute [local irreducible] awCond awCall awLoop awDraw ow retQ retC resQ Keeps
theorem inn_one {B : Nat} {M : Mem} {v : Value} : ∀ {qs : List (Item × Value)}, Inn itN B M v qs → (cellsL itN.RO qs).all (fun u => u.oneCell') = true
  | [], _ => rfl
  | p :: qs, h => by
    rw [cellsL_cons, List.all_append, inn_one fun q hq => h q (List.mem_cons_of_mem _ hq), Bool.and_true]
    obtain ⟨A, n, c, e, -⟩ := (h p (List.mem_cons_self ..)).1.sl
    show List.all [iv p.1.j, p.2, iv p.1.ln, iv p.1.ld, iv p.1.x, iv p.1.mt, iv p.1.mh, iv p.1.z] (fun u => u.oneCell') = true
    rw [e]
    rfl
theorem FlI.stay {B B2 q : Nat} {M M' : Mem} {mv v : Value} {qs ps : List (Item × Value)} {row : Slot} (h : FlI B B2 q M mv qs row v ps) (hB : B ≤ B2) (hq : B ≤ q) (hm : ∀ (i : Nat) s, B ≤ i → M[i]? = some s → M'[i]? = some s) : FlI B B2 q M' mv qs row v ps :=
  ⟨h.tab.stay hm, h.more.stay fun i s hi => hm i s (by omega), h.inn.stay fun i s hi => hm i s (by omega), h.sep, hm _ _ hq h.box, h.bap⟩
theorem Grow.hi {g B : Nat} {M M' : Mem} (h : Grow g M M') (hg : g < B) : ∀ (i : Nat) s, B ≤ i → M[i]? = some s → M'[i]? = some s := fun i s hi hs => h.2 i s (by omega) hs
theorem Acc.setR {q B : Nat} {M : Mem} {u : Value} {l : List Pitch} {cs : List Value} {o t : Bool} {e : TypeId} {s : Slot} (h : Acc pitchR 62 B M u l) (hq : M[q]? = some (.live ⟨cs, o, t, e, 8⟩)) : Acc pitchR 62 B (M.set q s) u l := by
  obtain ⟨A, n, c, rfl, hl, hA⟩ := h
  refine ⟨A, n, c, rfl, hl, ?_⟩
  rcases hA with hA | ⟨id, t', rfl, hid, hr⟩
  · exact .inl hA
  · refine .inr ⟨id, t', rfl, hid, ?_⟩
    rw [List.getElem?_set_ne (fun e => by subst e; rw [hq] at hr; simp at hr)]
    exact hr
theorem FlI.setBox {B B2 q : Nat} {M : Mem} {mv v : Value} {qs ps : List (Item × Value)} {cs : List Value} {o t : Bool} {e : TypeId} {row : Slot} (h : FlI B B2 q M mv qs (.live ⟨cs, o, t, e, 8⟩) v ps) (hm : Apart mv q) : FlI B B2 q (M.set q row) mv qs row v ps := by
  have hl := (List.getElem?_eq_some_iff.1 h.box).1
  exact ⟨⟨h.tab.1.setX h.bap, fun p hp => ⟨Acc.setR (h.tab.2 p hp).1 h.box, (h.tab.2 p hp).2⟩⟩, ⟨h.more.1.setX hm, fun p hp => ⟨Acc.setR (h.more.2 p hp).1 h.box, (h.more.2 p hp).2⟩⟩, fun p hp => ⟨Acc.setR (h.inn p hp).1 h.box, (h.inn p hp).2⟩, h.sep, List.getElem?_set_self hl, h.bap⟩
def DrTo (d L K : Nat) : Prop := ∀ (M : Mem) (b g k B : Nat), Src g B M k → b ≤ g → B ≤ M.length → k + K ≤ 50000 →
  Ctr Tryz.prog b 17 [.pointer (some ⟨g, 0, none⟩), iv d] M fun r M' => ∃ l, Tab itN M.length M' r l ∧ l.length ≤ L ∧ (∀ x, x ∈ l → x.ps.length ≤ 6) ∧ Grow g M M' ∧ ∃ k' : Nat, k' ≤ k + K ∧ Src g B M' k'
theorem bld_mv (a b c : Int) : Instr.fill (fun x => [(0, 1), (1, 1), (2, 2), (4, 1), (5, 2), (7, 1)][x]?) #[iv 0, .slice none 0 0, iv 0, iv 0, iv 0, iv 0, iv 0, iv 0] [(0, iv 5), (4, .agg #[iv a, iv b]), (5, iv c)] = some #[iv 5, .slice none 0 0, iv 0, iv 0, iv 0, iv a, iv b, iv c] := by rfl
set_option maxHeartbeats 8000000 in
theorem draw_step {d L K : Nat} (hd : d ≤ 3) (hL : L ≤ 1000) (hrec : d < 3 → DrTo (d + 1) L K) : DrTo d (3 * (1 + L)) (2 + 3 * (K + 60)) := by
  intro M b g k B h hb hB hk
  have hg := h.lt
  first | (refine ctr_fn Tryz.func17 rfl Tryz.ntmps17 Tryz.results17 rfl rfl (by simp) ?_) | (refine ctr_fnC Tryz.func17 rfl Tryz.ntmps17 Tryz.results17 rfl (by simp) ?_)
  simp
  have hT0 : TabP itN M.length (M ++ [Slot.live ⟨[], true, true, 60, 8⟩]) (.slice (some ⟨M.length, 0, none⟩) 0 0) [] := TabP.box (N := itN) (t := true) (Nat.le_refl _) (by simp [itN])
  refine awCall_ctr ((h.app _).pick 3 hb (by omega) (by omega)) ?_
  rintro _ M1 ⟨ct, k1, rfl, ct0, ct1, hk1, h1, u1⟩
  obtain ⟨cn, rfl⟩ := Int.eq_ofNat_of_zero_le ct0
  have hcn : cn ≤ 2 := by omega
  have hT1 := hT0.stay (u1.grow.hi (B := M.length) (by omega))
  have g1 : Grow g M M1 := (Grow.app g M _).trans u1.grow
  have n1 := u1.1
  simp only [List.length_append, List.length_singleton] at n1
  clear hT0 u1
  obtain ⟨L', hL'⟩ : ∃ L', L' = 1 + L := ⟨_, rfl⟩
  obtain ⟨K', hK'⟩ : ∃ K', K' = K + 60 := ⟨_, rfl⟩
  have hLm : L' * (cn + 1) ≤ 3 * L' := by rw [Nat.mul_comm]; exact Nat.mul_le_mul_right _ (by omega)
  have hKm : K' * (cn + 1) ≤ 3 * K' := by rw [Nat.mul_comm]; exact Nat.mul_le_mul_right _ (by omega)
  rw [← hL', ← hK']
  rw [← hK'] at hk
  try simp (disch := omega) [wrap_in]
  refine awLoop_T (fun m T M' => ∃ (ps : List (Item × Value)) (v : Value) (k' : Nat), m ≤ cn + 1 ∧ ps.length + L' * m ≤ L' * (cn + 1) ∧ TabP itN M.length M' v ps ∧ (∀ p, p ∈ ps → p.1.ps.length ≤ 6) ∧ Src g B M' k' ∧ k' + K' * m ≤ k1 + K' * (cn + 1) ∧ Grow g M M' ∧ M.length + 1 ≤ M'.length ∧ look T 6 = some (iv m) ∧ look T 5 = some v ∧ look T 1 = some (iv d) ∧ look T 0 = some (.pointer (some ⟨g, 0, none⟩))) (cn + 1)
    ⟨[], _, k1, by omega, by simp, hT1, (fun p hp => by cases hp), h1, by omega, g1, by omega, by simp; omega, by simp, by simp, by simp⟩ ?_
  clear hT1 h1 g1 n1
  rintro m T M2 ⟨ps, v, k2, hmc, hps, hT, hp6, h2, hk2, g2, n2, t6, t5, t1, t0⟩
  rcases m with _ | m
  · simp (disch := omega) [t6, t5]
    exact ⟨ps.map (·.1), ⟨ps, rfl, hT⟩, by simp; omega, fun x hx => by obtain ⟨p, hp, rfl⟩ := List.mem_map.1 hx; exact hp6 p hp, g2, k2, by omega, h2⟩
  have e : (0 : Int) < (m : Int) + 1 := by omega
  rw [Nat.mul_succ] at hps hk2
  have hLL : 1 ≤ L' := by omega
  have hlen : ps.length ≤ 3003 := by omega
  simp (disch := omega) [t6, t5, t1, t0, e]
  by_cases hd3 : 3 ≤ d
  · have hd3' : (3 : Int) ≤ d := by omega
    have h3 := h2
    have hT3 := hT
    have g3 := g2
    simp (disch := omega) [hd3, hd3']
    simp (disch := omega) [t5, t0]
    refine awCall_ctr (l19DrawItem_b h3 hb (by omega) (by omega)) ?_
    rintro _ M4 ⟨x, u, rfl, hu, hxj, hx6, g4, k4, hk4, h4⟩
    obtain ⟨A4, q4, c4, rfl, hq4, -, -⟩ := hu.sl
    have n4 := g4.1
    simp (disch := omega) [fill_oneIt]
    have hT4 := hT3.stay (g4.hi (B := M.length) (by omega))
    refine TabP.snoc (p := (x, .slice A4 q4 c4)) (by_ := 80) (hT4.keeps (keeps_app _)) (by omega) (by simp; omega) (by simp [itN]) (by kernel_rfl) (by simp [srcOf, Tryz.underlying29, itN]) (by rfl) ((hu.keeps (keeps_app _)).low (by omega)) (hu.sep_new hT3.1 (Nat.le_refl _)).symm (by omega) (by unfold maxLen; omega) ?_
    intro v' M5 a1 a2 a3
    have n5 := a2.1
    simp only [List.length_append, List.length_singleton] at n5
    simp (disch := omega) [t6, wrap_in]
    refine lpI m (by omega) ⟨_, v', k4, by omega, by simp; omega, a1, fun p hp => ?_, ((h4.app _).same (a2.low (by omega))), by omega, ((g3.trans g4).trans (Grow.app g M4 _)).new a2 (Nat.le_refl _), by omega, by simp, by simp, by simp [t1], by simp [t0]⟩
    rcases List.mem_append.1 hp with hp | hp
    · exact hp6 p hp
    · rw [List.mem_singleton.1 hp]; exact hx6
  have hd3' : ¬ (3 : Int) ≤ d := by omega
  simp (disch := omega) [hd3, hd3', t0]
  refine awCall_ctr (one_b 4 h2 hb (by omega) (by omega)) ?_
  rintro _ M3 ⟨yes, k3, rfl, hk3, h3, u3⟩
  have hT3 := hT.stay (u3.grow.hi (B := M.length) (by omega))
  have g3 := g2.trans u3.grow
  have n3 := u3.1
  cases yes
  case false =>
    simp (disch := omega) [t5, t0]
    refine awCall_ctr (l19DrawItem_b h3 hb (by omega) (by omega)) ?_
    rintro _ M4 ⟨x, u, rfl, hu, hxj, hx6, g4, k4, hk4, h4⟩
    obtain ⟨A4, q4, c4, rfl, hq4, -, -⟩ := hu.sl
    have n4 := g4.1
    simp (disch := omega) [fill_oneIt]
    have hT4 := hT3.stay (g4.hi (B := M.length) (by omega))
    refine TabP.snoc (p := (x, .slice A4 q4 c4)) (by_ := 80) (hT4.keeps (keeps_app _)) (by omega) (by simp; omega) (by simp [itN]) (by kernel_rfl) (by simp [srcOf, Tryz.underlying29, itN]) (by rfl) ((hu.keeps (keeps_app _)).low (by omega)) (hu.sep_new hT3.1 (Nat.le_refl _)).symm (by omega) (by unfold maxLen; omega) ?_
    intro v' M5 a1 a2 a3
    have n5 := a2.1
    simp only [List.length_append, List.length_singleton] at n5
    simp (disch := omega) [t6, wrap_in]
    refine lpI m (by omega) ⟨_, v', k4, by omega, by simp; omega, a1, fun p hp => ?_, ((h4.app _).same (a2.low (by omega))), by omega, ((g3.trans g4).trans (Grow.app g M4 _)).new a2 (Nat.le_refl _), by omega, by simp, by simp, by simp [t1], by simp [t0]⟩
    rcases List.mem_append.1 hp with hp | hp
    · exact hp6 p hp
    · rw [List.mem_singleton.1 hp]; exact hx6
  have hcall := hrec (by omega) M3 b g k3 B h3 hb (by omega) (by omega)
  push_cast at hcall
  simp (disch := omega) [t0, t1, wrap_in]
  refine awCall_ctr hcall ?_
  rintro mv M4 ⟨lq, ⟨qs, rfl, hQ⟩, hlq, hq6, g4, k4, hk4, h4⟩
  rw [List.length_map] at hlq
  obtain ⟨Aq, cq, rfl⟩ := hQ.one
  have n4 := g4.1
  have hT4 := hT3.stay (g4.hi (B := M.length) (by omega))
  try simp (disch := omega)
  refine awCall_ctr (h4.pick 2 hb (by omega) (by omega)) ?_
  rintro _ M5 ⟨z, k5, rfl, z0, z1, hk5, h5, u5⟩
  have n5 := u5.1
  have g5 := (g3.trans g4).trans u5.grow
  simp (disch := omega) [wrap_in, bld_rep]
  have hT5 := hT4.stay (u5.grow.hi (B := M.length) (by omega))
  have hQ5 := hQ.stay (u5.grow.hi (B := M3.length) (by omega))
  obtain ⟨M6, hM6⟩ : ∃ M6 : Mem, M6 = M5 ++ [Slot.live ⟨[iv 4, .slice none 0 0, iv 0, iv 0, iv (2 + z), iv 0, iv 0, iv qs.length], true, true, 60, 8⟩] := ⟨_, rfl⟩
  have hap : Apart v M5.length := hT5.1.apartM (Nat.le_refl _)
  have hapm : Apart (.slice Aq qs.length cq) M5.length := hQ5.1.apartM (Nat.le_refl _)
  have hF : FlI M.length M3.length M5.length M6 (.slice Aq qs.length cq) qs (.live ⟨[iv 4, .slice none 0 0, iv 0, iv 0, iv (2 + z), iv 0, iv 0, iv qs.length], true, true, 60, 8⟩) v ps := by
    rw [hM6]
    exact ⟨hT5.keeps (keeps_app _), hQ5.keeps (keeps_app _), (hQ5.sep hT3.1 (Nat.le_refl _)).keeps (keeps_app _), (hQ5.1.sep_new hT3.1 (Nat.le_refl _)).symm, getElem?_snoc_eq, hap⟩
  have h6 : Src g B M6 k5 := by rw [hM6]; exact h5.app _
  have g6 : Grow g M M6 := by rw [hM6]; exact g5.trans (Grow.app g M5 _)
  have n6 : M6.length = M5.length + 1 := by rw [hM6]; simp
  rw [← hM6]
  clear hM6 hap hT5 hQ5 hT4 hT3 hT hQ h5 g5 h4 g4 u5
  generalize hqq : M5.length = q at *
  simp (disch := omega) [t0]
  refine awCall_ctr (one_b 2 h6 hb (by omega) (by omega)) ?_
  rintro _ M7 ⟨yes2, k7, rfl, hk7, h7, u7⟩
  have hF7 := hF.stay (by omega) (by omega) (u7.grow.hi (B := M.length) (by omega))
  have g7 := g6.trans u7.grow
  have n7 := u7.1
  clear hF g6 u7 h6
  refine awCond_join (fun T' M' => ∃ (x : Item) (k' : Nat), x.ps = [] ∧ FlI M.length M3.length q M' (.slice Aq qs.length cq) qs (.live ⟨[iv x.j, .slice none 0 0, iv x.ln, iv x.ld, iv x.x, iv x.mt, iv x.mh, iv x.z], true, true, 60, 8⟩) v ps ∧ Src g B M' k' ∧ k' ≤ k7 + 2 ∧ Grow g M M' ∧ M7.length ≤ M'.length ∧ look T' 0 = some (.pointer (some ⟨g, 0, none⟩)) ∧ look T' 1 = some (iv d) ∧ look T' 5 = some v ∧ look T' 6 = some (iv (m + 1)) ∧ look T' 7 = some (.slice Aq qs.length cq) ∧ look T' 8 = some (.pointer (some ⟨q, 0, none⟩))) ?_ ?_ ?_
  · intro Q' hQ' _
    simp (disch := omega) [t0]
    refine awCall_ctr (l19DrawMove_b h7 hb (by omega) (by omega)) ?_
    rintro _ M8 ⟨i, rfl, g8, k8, hk8, h8⟩
    have hF8 := hF7.stay (by omega) (by omega) (g8.hi (B := M.length) (by omega))
    have n8 := g8.1
    simp (disch := omega) [bld_mv]
    rw [put_whole (vs := [iv 5, .slice none 0 0, iv 0, iv 0, iv 0, iv i.t, iv i.h, iv qs.length]) hF8.box (by omega) rfl (by simp), ow_some]
    have l8 := (List.getElem?_eq_some_iff.1 hF8.box).1
    refine hQ' _ _ ⟨⟨5, [], 0, 0, 0, i.t, i.h, qs.length⟩, k8, rfl, hF8.setBox hapm, h8.same (Same.set (by omega)), by omega, (g7.trans g8).new (Same.set (B := q) (Nat.le_refl _)) (by omega), by simp; omega, by simp [t0], by simp [t1], by simp [t5], by simp [t6], by simp, by simp⟩
  · intro Q' hQ' _
    try simp
    refine hQ' _ _ ⟨⟨4, [], 0, 0, 2 + z, 0, 0, qs.length⟩, k7, rfl, hF7, h7, by omega, g7, Nat.le_refl _, by simp [t0], by simp [t1], by simp [t5], by simp [t6], by simp, by simp⟩
  clear hF7 h7 g7 t0 t1 t5 t6
  rintro T' M8 ⟨x, k8, hx0, hF8, h8, hk8, g8, n8, t0, t1, t5, t6, t7, t8⟩
  have c8 := cells_hr (n := 8) hF8.box rfl
  simp only at c8
  simp (disch := omega) [t5, t8, t7, c8, fill_oneIt]
  refine FlI.push (p := (x, .slice none 0 0)) (hF8.keeps (keeps_app _)) (by omega) (by simp; omega) (by simp [srcOf, Tryz.underlying29, itN]) (by rfl) (by rw [hx0]; exact .nil) sep_nil (by omega) ?_
  intro v' M9 hF9 hS9
  have n9 : M8.length + 1 ≤ M9.length := by have := hS9.1; simpa using this
  try simp (disch := omega) [t7]
  refine TabP.many (qs := qs) (by_ := 80) hF9.tab (by omega) (by show M.length ≤ M9.length; omega) (by simp [itN]) (by kernel_rfl) (hF9.more.1.src ⟨_, Tryz.underlying29⟩) (inn_one hF9.inn) (hF9.inn.low (by omega)) (by simp; omega) (by unfold maxLen; simp; omega) ?_
  intro v2 M10 a1 a2 a3 a4
  have n10 : M9.length ≤ M10.length := a3.1
  simp (disch := omega) [t6, wrap_in]
  refine lpI m (by omega) ⟨_, v2, k8, by omega, by simp; omega, a1, fun p hp => ?_, (((h8.app _).same (hS9.low (by omega))).same (a3.low (by omega))), by omega, (((g8.trans (Grow.app g M8 _)).new hS9 (Nat.le_refl _)).new a3 (Nat.le_refl _)), by omega, by simp, by simp, by simp [t1], by simp [t0]⟩
  rcases List.mem_append.1 hp with hp | hp
  · rcases List.mem_append.1 hp with hp | hp
    · exact hp6 p hp
    · rw [List.mem_singleton.1 hp, hx0]; exact Nat.zero_le _
  · exact hq6 p.1 (List.mem_map.2 ⟨p, hp, rfl⟩)
theorem draw_3 : DrTo 3 3 182 := draw_step (d := 3) (L := 0) (K := 0) (by omega) (by omega) (fun h => by omega)
theorem draw_2 : DrTo 2 12 728 := draw_step (d := 2) (L := 3) (K := 182) (by omega) (by omega) fun _ => draw_3
theorem draw_1 : DrTo 1 39 2366 := draw_step (d := 1) (L := 12) (K := 728) (by omega) (by omega) fun _ => draw_2
theorem draw_0 : DrTo 0 120 7280 := draw_step (d := 0) (L := 39) (K := 2366) (by omega) (by omega) fun _ => draw_1
end Go.Proofs.YtodbjnngkonklaaGreat

namespace Go.Proofs.YtodbjnngkonklaaGreat
open Go.RowKit
set_option linter.unusedVariables false
set_option linter.unusedSimpArgs false
set_option maxRecDepth 100000
attribute [local simp] List.getElem?_cons_zero
attribute [local irreducible] awCond awCall awLoop awDraw ow retQ retC resQ Keeps
def OkP (x : Item) : Prop := (1 ≤ x.j ∧ x.j ≤ 3) ∧ x.ps.length ≤ 6
structure FlP (B : Nat) (M : Mem) (mv : Value) (qs : List (Item × Value)) (v : Value) (ps : List (Item × Value)) : Prop where
  tab : TabP itN B M v ps
  more : TabP itN B M mv qs
  inn : Inn itN B M v qs
  sep : Sep v mv
theorem FlP.stay {B : Nat} {M M' : Mem} {mv v : Value} {qs ps : List (Item × Value)} (h : FlP B M mv qs v ps) (hm : ∀ (i : Nat) s, B ≤ i → M[i]? = some s → M'[i]? = some s) : FlP B M' mv qs v ps := ⟨h.tab.stay hm, h.more.stay hm, h.inn.stay hm, h.sep⟩
theorem FlP.aside {B : Nat} {M M' : Mem} {mv v v' : Value} {qs ps ps' : List (Item × Value)} (h : FlP B M mv qs v ps) (h1 : TabP itN B M' v' ps') (hap : ∀ (i : Nat) s, Apart v i → M[i]? = some s → M'[i]? = some s ∧ Apart v' i) : FlP B M' mv qs v' ps' := by
  obtain ⟨c1, c2⟩ := h.more.1.aside h.sep hap
  have c3 := h.inn.aside hap
  exact ⟨h1, ⟨c1, fun r hr => ⟨(c3 r hr).1, (h.more.2 r hr).2⟩⟩, c3, c2⟩
theorem sep_low {α : Type} {k id B n c : Nat} {R : RecV α k} {e : TypeId} {M : Mem} {u : Value} {l : List α} (h : Acc R e B M u l) (hi : id < B) : Sep (.slice (some ⟨id, 0, none⟩) n c) u := by
  intro A B' n c m d a b e1 e2 e3 e4
  cases e1
  cases e3
  have := h.apartL hi
  exact this _ _ _ _ e2 e4
set_option maxHeartbeats 8000000 in
theorem l19Flats_b {M : Mem} {b g k B : Nat} (h : Src g B M k) (hb : b ≤ g) (hB : B ≤ M.length) (hk : k ≤ 10000) :
    Ctr Tryz.prog b 30 [.pointer (some ⟨g, 0, none⟩)] M fun r M' => ∃ l, Tab itN M.length M' r l ∧ l.length ≤ 1000 ∧ (∀ x, x ∈ l → OkP x) ∧ Grow g M M' ∧ ∃ k' : Nat, k' ≤ k + 1200 ∧ Src g B M' k' := by
  have hg := h.lt
  first | (refine ctr_fn Tryz.func30 rfl Tryz.ntmps30 Tryz.results30 rfl rfl (by simp) ?_) | (refine ctr_fnC Tryz.func30 rfl Tryz.ntmps30 Tryz.results30 rfl (by simp) ?_)
  simp
  obtain ⟨M0, hM0⟩ : ∃ M0 : Mem, M0 = M ++ [Slot.live ⟨[], true, true, 60, 8⟩] := ⟨_, rfl⟩
  have g0 : Grow g M M0 := by rw [hM0]; exact Grow.app g M _
  have h0 : Src g B M0 k := by rw [hM0]; exact h.app _
  have o0 : M0[M.length]? = some (Slot.live ⟨[], true, true, 60, 8⟩) := by rw [hM0]; exact getElem?_snoc_eq
  have n0 : M0.length = M.length + 1 := by rw [hM0]; simp
  rw [← hM0]
  clear hM0
  refine awCall_ctr (l19DrawItem_b h0 hb (by omega) (by omega)) ?_
  rintro _ M1 ⟨x, u, rfl, hu, hxj, hx6, g1, k1, hk1, h1⟩
  obtain ⟨A1, q1, c1, rfl, hq1, -, -⟩ := hu.sl
  have n1 := g1.1
  have o1 := g1.2 _ _ (by omega) o0
  simp (disch := omega) [fill_oneIt]
  obtain ⟨M2, hM2⟩ : ∃ M2 : Mem, M2 = M1 ++ [Slot.live ⟨[iv x.j, .slice A1 q1 c1, iv x.ln, iv x.ld, iv x.x, iv x.mt, iv x.mh, iv x.z], true, true, 60, 8⟩] := ⟨_, rfl⟩
  have o2 : M2[M.length]? = some (Slot.live ⟨[], true, true, 60, 8⟩) := by rw [hM2]; exact (keeps_app _).get o1
  have h2 : Src g B M2 k1 := by rw [hM2]; exact h1.app _
  have g2 : Grow g M M2 := by rw [hM2]; exact (g0.trans g1).trans (Grow.app g M1 _)
  have n2 : M2.length = M1.length + 1 := by rw [hM2]; simp
  have hu2 : Acc pitchR 62 (M.length + 1) M2 (.slice A1 q1 c1) x.ps := by rw [hM2, ← n0]; exact hu.keeps (keeps_app _)
  have hP2 : TabP itN (M.length + 1) M2 (.slice (some ⟨M1.length, 0, none⟩) 1 1) [(x, .slice A1 q1 c1)] := by
    refine ⟨⟨_, 1, 1, rfl, rfl, .inr ⟨M1.length, true, rfl, by omega, by rw [hM2]; simp [cellsL, itN]⟩⟩, Inn.one hu2 ?_⟩
    intro A B' n c m d a b' e1 e2 e3 e4
    cases e1
    cases e3
    have := hu.apartM (Nat.le_refl _)
    exact this _ _ _ _ e2 e4
  rw [← hM2]
  clear hM2 hu hu2 o0 o1 g0 h0 g1 h1
  refine awCall_ctr (h2.pick 3 hb (by omega) (by omega)) ?_
  rintro _ M3 ⟨ct, k3, rfl, ct0, ct1, hk3, h3, u3⟩
  obtain ⟨cn, rfl⟩ := Int.eq_ofNat_of_zero_le ct0
  have hcn : cn ≤ 2 := by omega
  have hP3 := hP2.stay (u3.grow.hi (B := M.length + 1) (by omega))
  have o3 := u3.2 _ _ (by omega) o2
  have g3 := g2.trans u3.grow
  have n3 := u3.1
  clear u3 o2 g2 h2 hP2
  try simp
  refine awLoop_T (fun m T M' => ∃ (qs : List (Item × Value)) (pv : Value) (k' : Nat), m ≤ 2 ∧ qs.length + m ≤ 3 ∧ TabP itN (M.length + 1) M' pv qs ∧ (∀ p, p ∈ qs → OkP p.1) ∧ M'[M.length]? = some (Slot.live ⟨[], true, true, 60, 8⟩) ∧ Src g B M' k' ∧ k' + 60 * m ≤ k + 200 ∧ Grow g M M' ∧ M.length + 1 ≤ M'.length ∧ look T 5 = some (iv m) ∧ look T 4 = some pv ∧ look T 3 = some (.slice (some ⟨M.length, 0, none⟩) 0 0) ∧ look T 0 = some (.pointer (some ⟨g, 0, none⟩))) cn
    ⟨_, _, k3, hcn, by simp; omega, hP3, (fun p hp => by rw [List.mem_singleton.1 hp]; exact ⟨hxj, hx6⟩), o3, h3, by omega, g3, by omega, by simp, by simp, by simp, by simp⟩ ?_
  clear hP3 o3 h3 g3 n3 hxj hx6
  rintro m T M4 ⟨qs, pv, k4, hm2, hql, hP, hpk, o4, h4, hk4, g4, n4, t5, t4, t3, t0⟩
  rcases m with _ | m
  case succ =>
    have e : (0 : Int) < (m : Int) + 1 := by omega
    simp (disch := omega) [t5, t4, t0, e]
    refine awCall_ctr (l19DrawItem_b h4 hb (by omega) (by omega)) ?_
    rintro _ M5 ⟨x, u, rfl, hu, hxj, hx6, g5, k5, hk5, h5⟩
    obtain ⟨A5, q5, c5, rfl, hq5, -, -⟩ := hu.sl
    have n5 := g5.1
    simp (disch := omega) [fill_oneIt]
    have hP5 := hP.stay (g5.hi (B := M.length + 1) (by omega))
    refine TabP.snoc (p := (x, .slice A5 q5 c5)) (by_ := 80) (hP5.keeps (keeps_app _)) (by omega) (by simp; omega) (by simp [itN]) (by kernel_rfl) (by simp [srcOf, Tryz.underlying29, itN]) (by rfl) ((hu.keeps (keeps_app _)).low (by omega)) (hu.sep_new hP.1 (Nat.le_refl _)).symm (by omega) (by unfold maxLen; omega) ?_
    intro v' M6 a1 a2 a3
    have n6 : M5.length + 1 ≤ M6.length := by have := a2.1; simpa using this
    have o6 := a2.2 _ _ (by omega) ((keeps_app _).get (g5.2 _ _ (by omega) o4))
    simp (disch := omega) [t5, wrap_in]
    refine lpI m (by omega) ⟨_, v', k5, by omega, by simp; omega, a1, fun p hp => ?_, o6, ((h5.app _).same (a2.low (by omega))), by omega, ((g4.trans g5).trans (Grow.app g M5 _)).new a2 (by omega), by omega, by simp, by simp, by simp [t3], by simp [t0]⟩
    rcases List.mem_append.1 hp with hp | hp
    · exact hpk p hp
    · rw [List.mem_singleton.1 hp]; exact ⟨hxj, hx6⟩
  have hF : FlP M.length M4 pv qs (.slice (some ⟨M.length, 0, none⟩) 0 0) [] := ⟨TabP.box (N := itN) (t := true) (Nat.le_refl _) o4, hP.low (by omega), fun p hp => ⟨(hP.2 p hp).1.low (by omega), sep_low (hP.2 p hp).1 (by omega)⟩, sep_low hP.1 (by omega)⟩
  clear hP o4
  simp (disch := omega) [t5, t0]
  refine awCall_ctr (h4.pick 3 hb (by omega) (by omega)) ?_
  rintro _ N1 ⟨ct, k5, rfl, ct0, ct1, hk5, h5, u5⟩
  obtain ⟨cm, rfl⟩ := Int.eq_ofNat_of_zero_le ct0
  have hcm : cm ≤ 2 := by omega
  have hF5 := hF.stay (u5.grow.hi (B := M.length) (by omega))
  have g5 := g4.trans u5.grow
  have n5 := u5.1
  clear u5 hF h4
  try simp
  refine awLoop_T (fun m T M' => ∃ (ps : List (Item × Value)) (v : Value) (k' : Nat), m ≤ 2 ∧ ps.length + 3 * m ≤ 6 ∧ FlP M.length M' pv qs v ps ∧ (∀ p, p ∈ ps → OkP p.1) ∧ Src g B M' k' ∧ k' + 60 * m ≤ k + 402 ∧ Grow g M M' ∧ M.length + 1 ≤ M'.length ∧ look T 6 = some (iv m) ∧ look T 4 = some pv ∧ look T 3 = some v ∧ look T 0 = some (.pointer (some ⟨g, 0, none⟩))) cm
    ⟨_, _, k5, hcm, by first | omega | (simp; omega), hF5, (fun p hp => by cases hp), h5, by omega, g5, by omega, by simp, by simp [t4], by simp [t3], by simp [t0]⟩ ?_
  clear hF5 h5 g5 n5 t4 t3 t0
  rintro m T M4 ⟨ps, v, k4, hm2, hpl, hF, hpp, h4, hk4, g4, n4, tc, t4, t3, t0⟩
  rcases m with _ | m
  case succ =>
    have e : (0 : Int) < (m : Int) + 1 := by omega
    simp (disch := omega) [tc, t4, t3, t0, e]
    refine awCall_ctr (l19DrawItem_b h4 hb (by omega) (by omega)) ?_
    rintro _ M5 ⟨x, u, rfl, hu, hxj, hx6, g5, k5, hk5, h5⟩
    obtain ⟨A5, q5, c5, rfl, hq5, -, -⟩ := hu.sl
    have n5 := g5.1
    simp (disch := omega) [fill_oneIt]
    have hF5 := hF.stay (g5.hi (B := M.length) (by omega))
    have hF6 := hF5.stay (M' := M5 ++ [Slot.live ⟨[iv x.j, .slice A5 q5 c5, iv x.ln, iv x.ld, iv x.x, iv x.mt, iv x.mh, iv x.z], true, true, 60, 8⟩]) (fun i s _ hs => (keeps_app _).get hs)
    refine TabP.snoc (p := (x, .slice A5 q5 c5)) (by_ := 80) hF6.tab (by omega) (by simp; omega) (by simp [itN]) (by kernel_rfl) (by simp [srcOf, Tryz.underlying29, itN]) (by rfl) ((hu.keeps (keeps_app _)).low (by omega)) (hu.sep_new hF.tab.1 (Nat.le_refl _)).symm (by omega) (by unfold maxLen; omega) ?_
    intro v' M6 a1 a2 a3
    have n6 : M5.length + 1 ≤ M6.length := by have := a2.1; simpa using this
    simp (disch := omega) [tc, wrap_in]
    refine lpI m (by omega) ⟨_, v', k5, by omega, by simp; omega, hF6.aside a1 a3, fun p hp => ?_, ((h5.app _).same (a2.low (by omega))), by omega, ((g4.trans g5).trans (Grow.app g M5 _)).new a2 (Nat.le_refl _), by omega, by simp, by simp [t4], by simp, by simp [t0]⟩
    rcases List.mem_append.1 hp with hp | hp
    · exact hpp p hp
    · rw [List.mem_singleton.1 hp]; exact ⟨hxj, hx6⟩
  simp (disch := omega) [tc, t0]
  refine awCall_ctr (h4.pick 11 hb (by omega) (by omega)) ?_
  rintro _ N1 ⟨ct, k5, rfl, ct0, ct1, hk5, h5, u5⟩
  obtain ⟨cm, rfl⟩ := Int.eq_ofNat_of_zero_le ct0
  have hcm : cm ≤ 10 := by omega
  have hF5 := hF.stay (u5.grow.hi (B := M.length) (by omega))
  have g5 := g4.trans u5.grow
  have n5 := u5.1
  clear u5 hF h4
  try simp
  refine awLoop_T (fun m T M' => ∃ (ps : List (Item × Value)) (v : Value) (k' : Nat), m ≤ 10 ∧ ps.length + 3 * m ≤ 36 ∧ FlP M.length M' pv qs v ps ∧ (∀ p, p ∈ ps → OkP p.1) ∧ Src g B M' k' ∧ k' + 60 * m ≤ k + 1010 ∧ Grow g M M' ∧ M.length + 1 ≤ M'.length ∧ look T 7 = some (iv m) ∧ look T 4 = some pv ∧ look T 3 = some v ∧ look T 0 = some (.pointer (some ⟨g, 0, none⟩))) cm
    ⟨_, _, k5, hcm, by first | omega | (simp; omega), hF5, hpp, h5, by omega, g5, by omega, by simp, by simp [t4], by simp [t3], by simp [t0]⟩ ?_
  clear hF5 h5 g5 n5 t4 t3 t0
  rintro m T M4 ⟨ps, v, k4, hm2, hpl, hF, hpp, h4, hk4, g4, n4, tc, t4, t3, t0⟩
  rcases m with _ | m
  case succ =>
    have e : (0 : Int) < (m : Int) + 1 := by omega
    simp (disch := omega) [tc, t4, t3, t0, e]
    refine TabP.many (qs := qs) (by_ := 80) hF.tab (by omega) (by show M.length ≤ M4.length; omega) (by simp [itN]) (by kernel_rfl) (hF.more.1.src ⟨_, Tryz.underlying29⟩) (inn_one hF.inn) hF.inn (by omega) (by unfold maxLen; omega) ?_
    intro v' M6 a1 a2 a3 a4
    have n6 : M4.length ≤ M6.length := a3.1
    simp (disch := omega) [tc, wrap_in]
    refine lpI m (by omega) ⟨_, v', k4, by omega, by simp; omega, hF.aside a1 a4, fun p hp => ?_, h4.same (a3.low (by omega)), by omega, g4.new a3 (Nat.le_refl _), by omega, by simp, by simp [t4], by simp, by simp [t0]⟩
    rcases List.mem_append.1 hp with hp | hp
    · exact hpp p hp
    · exact hpk p hp
  simp (disch := omega) [tc, t0]
  refine awCall_ctr (h4.pick 3 hb (by omega) (by omega)) ?_
  rintro _ N1 ⟨ct, k5, rfl, ct0, ct1, hk5, h5, u5⟩
  obtain ⟨cm, rfl⟩ := Int.eq_ofNat_of_zero_le ct0
  have hcm : cm ≤ 2 := by omega
  have hF5 := hF.stay (u5.grow.hi (B := M.length) (by omega))
  have g5 := g4.trans u5.grow
  have n5 := u5.1
  clear u5 hF h4
  try simp
  refine awLoop_T (fun m T M' => ∃ (ps : List (Item × Value)) (v : Value) (k' : Nat), m ≤ 2 ∧ ps.length + 3 * m ≤ 50 ∧ FlP M.length M' pv qs v ps ∧ (∀ p, p ∈ ps → OkP p.1) ∧ Src g B M' k' ∧ k' + 60 * m ≤ k + 1140 ∧ Grow g M M' ∧ M.length + 1 ≤ M'.length ∧ look T 8 = some (iv m) ∧ look T 4 = some pv ∧ look T 3 = some v ∧ look T 0 = some (.pointer (some ⟨g, 0, none⟩))) cm
    ⟨_, _, k5, hcm, by first | omega | (simp; omega), hF5, hpp, h5, by omega, g5, by omega, by simp, by simp [t4], by simp [t3], by simp [t0]⟩ ?_
  clear hF5 h5 g5 n5 t4 t3 t0
  rintro m T M4 ⟨ps, v, k4, hm2, hpl, hF, hpp, h4, hk4, g4, n4, tc, t4, t3, t0⟩
  rcases m with _ | m
  case succ =>
    have e : (0 : Int) < (m : Int) + 1 := by omega
    simp (disch := omega) [tc, t4, t3, t0, e]
    refine awCall_ctr (l19DrawItem_b h4 hb (by omega) (by omega)) ?_
    rintro _ M5 ⟨x, u, rfl, hu, hxj, hx6, g5, k5, hk5, h5⟩
    obtain ⟨A5, q5, c5, rfl, hq5, -, -⟩ := hu.sl
    have n5 := g5.1
    simp (disch := omega) [fill_oneIt]
    have hF5 := hF.stay (g5.hi (B := M.length) (by omega))
    have hF6 := hF5.stay (M' := M5 ++ [Slot.live ⟨[iv x.j, .slice A5 q5 c5, iv x.ln, iv x.ld, iv x.x, iv x.mt, iv x.mh, iv x.z], true, true, 60, 8⟩]) (fun i s _ hs => (keeps_app _).get hs)
    refine TabP.snoc (p := (x, .slice A5 q5 c5)) (by_ := 80) hF6.tab (by omega) (by simp; omega) (by simp [itN]) (by kernel_rfl) (by simp [srcOf, Tryz.underlying29, itN]) (by rfl) ((hu.keeps (keeps_app _)).low (by omega)) (hu.sep_new hF.tab.1 (Nat.le_refl _)).symm (by omega) (by unfold maxLen; omega) ?_
    intro v' M6 a1 a2 a3
    have n6 : M5.length + 1 ≤ M6.length := by have := a2.1; simpa using this
    simp (disch := omega) [tc, wrap_in]
    refine lpI m (by omega) ⟨_, v', k5, by omega, by simp; omega, hF6.aside a1 a3, fun p hp => ?_, ((h5.app _).same (a2.low (by omega))), by omega, ((g4.trans g5).trans (Grow.app g M5 _)).new a2 (Nat.le_refl _), by omega, by simp, by simp [t4], by simp, by simp [t0]⟩
    rcases List.mem_append.1 hp with hp | hp
    · exact hpp p hp
    · rw [List.mem_singleton.1 hp]; exact ⟨hxj, hx6⟩
  simp (disch := omega) [tc, t3]
  exact ⟨ps.map (·.1), ⟨ps, rfl, hF.tab⟩, by simp; omega, fun x hx => by obtain ⟨p, hp, rfl⟩ := List.mem_map.1 hx; exact hpp p hp, g4, k4, by omega, h4⟩
end Go.Proofs.YtodbjnngkonklaaGreat

namespace Go.Proofs.YtodbjnngkonklaaGreat
open Go.RowKit
set_option linter.unusedVariables false
set_option linter.unusedSimpArgs false
set_option maxRecDepth 100000
attribute [local simp] List.getElem?_cons_zero
attribute [local irreducible] awCond awCall awLoop awDraw ow retQ retC resQ Keeps
theorem Tab.slp {B : Nat} {M : Mem} {v : Value} {l : List Item} (h : Tab itN B M v l) (hp : ∀ x, x ∈ l → x.ps.length ≤ 1048576) : ∃ A c, v = .slice A l.length c ∧ SlP itemP B M.length M A l.length l ∧ (A = none → c = 0) := by
  obtain ⟨ps, rfl, ⟨A, n, c, rfl, hl, hA⟩, hI⟩ := h
  subst hl
  refine ⟨A, c, by rw [List.length_map], ?_, ?_⟩
  · rw [List.length_map]
    refine ⟨by rw [List.length_map], fun h0 => ?_⟩
    rcases hA with ⟨rfl, h1, -⟩ | ⟨id, t, rfl, hid, hr⟩
    · omega
    refine ⟨id, 0, rfl, hid, (List.getElem?_eq_some_iff.1 hr).1, by simp [rowEsz, hr], fun i hi => ?_⟩
    have hm := el_mem hi
    rw [el_map _ hi]
    refine ⟨itN.RO.row (el ps i), ⟨(el ps i).2, rfl, (hI _ hm).1.slv ?_⟩, fun j x hx => ?_⟩
    · have := hp _ (List.mem_map.2 ⟨_, hm, rfl⟩)
      show (el ps i).1.ps.length ≤ _
      omega
    · have hj : j < 8 := by have := (List.getElem?_eq_some_iff.1 hx).1; rwa [itN.RO.len] at this
      simp only [cellAt, hr, Nat.zero_add]
      rw [cellsL_get itN.RO hi hj]
      exact hx
  · intro e
    rcases hA with ⟨-, -, h3⟩ | ⟨id, t, h1, -⟩
    · exact h3
    · rw [e] at h1; cases h1
theorem okP_grp {x : Item} (h : OkP x) : grpB x = false := by
  have h1 := h.1
  have : ¬ x.j = 4 := by omega
  have : ¬ x.j = 5 := by omega
  simp [grpB, *]
theorem A2Flat_b {M : Mem} {A : Option Addr} {n c : Nat} {cs : List Int} (h : Sl codeR M A n cs) (hn : n ≤ 1048576) (hcs : ∀ x, x ∈ cs → 0 ≤ x ∧ x ≤ 255) :
    Ctr Tryz.prog M.length 8 [.slice A n c] M fun r M' => ∃ l, Tab itN M.length M' r l ∧ okI l = true ∧ (∀ x, x ∈ l → grpB x = false) ∧ Keeps M M' := by
  first | (refine ctr_fn Tryz.func8 rfl Tryz.ntmps8 Tryz.results8 rfl rfl (by simp) ?_) | (refine ctr_fnC Tryz.func8 rfl Tryz.ntmps8 Tryz.results8 rfl (by simp) ?_)
  simp
  refine awCall_det' (l00From_a h hn hcs) (Nat.le_refl _) ?_
  have hs := src_new h hn hcs (c := c)
  try simp
  refine awCall_ctr (l19Flats_b (b := M.length) hs (Nat.le_refl _) (by simp) (by omega)) ?_
  rintro v M1 ⟨l, hT, hl, hk, g1, -⟩
  obtain ⟨A1, c1, rfl, hsl, -⟩ := hT.slp (fun x hx => by have := (hk x hx).2; omega)
  have k1 : Keeps M M1 := (g1.same (Nat.le_refl _)).keeps (keeps_app _) (Nat.le_refl _)
  have n1 := k1.len
  try simp
  refine awCall_det' (l19Ok_s hsl (by omega)) (by omega) ?_
  by_cases hok : okI l = true
  · simp [hok]
    refine ⟨l, hT.low (by simp), hok, fun x hx => okP_grp (hk x hx), k1⟩
  · simp [hok]
    refine ⟨[], ⟨[], rfl, TabP.box (N := itN) (t := true) n1 (by simp [itN])⟩, by unfold okI; rw [scanI_nil]; rfl, (fun x hx => by cases hx), k1.trans (keeps_app _)⟩
end Go.Proofs.YtodbjnngkonklaaGreat

namespace Go.Proofs.YtodbjnngkonklaaGreat
open Go.RowKit
set_option linter.unusedVariables false
set_option linter.unusedSimpArgs false
set_option maxRecDepth 100000
attribute [local simp] List.getElem?_cons_zero
attribute [local irreducible] awCond awCall awLoop awDraw ow retQ retC resQ Keeps
theorem flattenCode_i {M : Mem} {A : Option Addr} {n c lo hi : Nat} {l : List Item} (h : SlP itemP lo hi M A n l) (hok : okI l = true) (hmv : ∀ x, x ∈ l → x.j ≠ 5) (hc : cntI l ≤ 80) : Ctr Tryz.prog M.length 36 [.slice A n c] M fun r M' => ∃ v, r = .tuple #[v, iv 0] ∧ Keeps M M' ∧ Tab itN M.length M' v (flatI l) := by
  have hl := h.1
  unfold okI at hok
  simp only [Bool.and_eq_true, decide_eq_true_eq] at hok
  first | (refine ctr_fn Tryz.func36 rfl Tryz.ntmps36 Tryz.results36 rfl rfl (by simp) ?_) | (refine ctr_fnC Tryz.func36 rfl Tryz.ntmps36 Tryz.results36 rfl (by simp) ?_)
  simp
  refine awCall_det' (count_to (n + 1) M A n c l lo hi 3 h (by omega) (by omega) hok.2 (by omega)) (by omega) ?_
  have hc' : ¬ (80 : Int) < cntI l := by omega
  simp [hc']
  refine awCall_ctr (flat_to (n + 1) M A n c l lo hi 3 h (by omega) (by omega) hok.2 hmv (by omega)) ?_
  rintro _ M2 ⟨v, rfl, k2, t2⟩
  simp
  exact ⟨k2, t2⟩
theorem FlattenItems_i {M : Mem} {A : Option Addr} {n c lo hi : Nat} {l : List Item} (h : SlP itemP lo hi M A n l) (hn : n ≤ 1048576) (hok : okI l = true) (hmv : ∀ x, x ∈ l → x.j ≠ 5) (hc : cntI l ≤ 80) : Ctr Tryz.prog M.length 10 [.slice A n c] M fun r M' => ∃ v, r = .tuple #[v, iv 0] ∧ Keeps M M' ∧ Tab itN M.length M' v (flatI l) := by
  first | (refine ctr_fn Tryz.func10 rfl Tryz.ntmps10 Tryz.results10 rfl rfl (by simp) ?_) | (refine ctr_fnC Tryz.func10 rfl Tryz.ntmps10 Tryz.results10 rfl (by simp) ?_)
  simp
  refine awCall_det' (areItems_i h hn) (by omega) ?_
  simp [hok]
  refine awCall_ctr (flattenCode_i h hok hmv hc) ?_
  rintro _ M2 ⟨v, rfl, k2, t2⟩
  simp
  exact ⟨k2, t2⟩
theorem itemB_pb {x : Item} (h : itemB x = true) : ∀ i, i < x.ps.length → pitchB (el x.ps i) = true := by
  unfold itemB at h
  split at h
  · simp only [Bool.and_eq_true, decide_eq_true_eq] at h
    have h := h.1
    unfold chordB at h
    simp only [Bool.and_eq_true, decide_eq_true_eq] at h
    exact fun i hi => (h.1 i hi).1
  split at h
  · simp only [Bool.and_eq_true, decide_eq_true_eq] at h; rw [h.1]; intro i hi; cases hi
  split at h
  · simp only [Bool.and_eq_true, decide_eq_true_eq] at h; rw [h.1]; intro i hi; cases hi
  split at h
  · simp only [Bool.and_eq_true, decide_eq_true_eq] at h; rw [h.1]; intro i hi; cases hi
  split at h
  · simp only [Bool.and_eq_true, decide_eq_true_eq] at h; rw [h.1]; intro i hi; cases hi
  · cases h
def plN (a : Frac) (u ch : Int) (x : Item) : List Note := x.ps.map fun p => ⟨a.n, a.d, x.ln, x.ld, keyV p, u, ch⟩
/-- The notes that items play from a place on. -/
inductive PlG (ch : Int) : Frac → Int → List Item → List Note → Prop
  | nil {a u} : PlG ch a u [] []
  | loud {a u x r ns} : x.j = 3 → PlG ch a x.x r ns → PlG ch a u (x :: r) ns
  | sound {a u x r ns} : x.j ≠ 3 → (∀ n, n ∈ plN a u ch x → noteB n = true) → (addF a x.len).2 = 0 → PlG ch (addF a x.len).1 u r ns → PlG ch a u (x :: r) (plN a u ch x ++ ns)
set_option maxHeartbeats 4000000 in
theorem n_build5 (x y z w a b c : Int) : Instr.fill (fun x => [(0, 2), (2, 2), (4, 1), (5, 1), (6, 1)][x]?) #[iv 0, iv 0, iv 0, iv 0, iv 0, iv 0, iv 0] [(0, .agg #[iv x, iv y]), (1, .agg #[iv z, iv w]), (2, iv a), (3, iv b), (4, iv c)] = some #[iv x, iv y, iv z, iv w, iv a, iv b, iv c] := by kernel_rfl
set_option maxHeartbeats 4000000 in
theorem playItems_i {M : Mem} {A : Option Addr} {n c lo hi : Nat} {l : List Item} {ns : List Note} (ch : Int) (h : SlP itemP lo hi M A n l) (hok : okI l = true) (hmv : ∀ x, x ∈ l → x.j ≠ 5) (hc : cntI l ≤ 80) (hch : inB ch 0 15 = true) (hp : PlG ch ⟨0, 1⟩ 80 (flatI l) ns) (hns : ns.length ≤ 60) :
    Ctr Tryz.prog M.length 29 [.slice A n c, iv ch] M fun r M' => ∃ v, r = .tuple #[.agg #[v], iv 0] ∧ Keeps M M' ∧ Acc noteR 36 M.length M' v ns := by
  have hl := h.1
  first | (refine ctr_fn Tryz.func29 rfl Tryz.ntmps29 Tryz.results29 rfl rfl (by simp) ?_) | (refine ctr_fnC Tryz.func29 rfl Tryz.ntmps29 Tryz.results29 rfl (by simp) ?_)
  simp
  obtain ⟨M1, hM1⟩ : ∃ M1 : Mem, M1 = M ++ [Slot.live ⟨[.slice none 0 0], true, true, 26, 1⟩] := ⟨_, rfl⟩
  have k01 : Keeps M M1 := by rw [hM1]; exact keeps_app _
  have l1 : M1.length = M.length + 1 := by rw [hM1]; simp
  have r1 : M1[M.length]? = some (.live ⟨[.slice none 0 0], true, true, 26, 1⟩) := by rw [hM1]; simp
  rw [← hM1]
  clear hM1
  refine awCall_det' (within_a _ _ _) (by omega) ?_
  simp [hch]
  refine awCall_ctr ((flattenCode_i (c := c) (h.keeps k01) hok hmv hc).weaken (by omega)) ?_
  rintro _ M2 ⟨v2, rfl, k12, qs, hqs, hQ⟩
  have n2 := k12.len
  obtain ⟨A4, c4, rfl⟩ := hQ.one
  simp
  refine awCall_det' (whole_i 0) (by first | omega | (simp; omega)) ?_
  obtain ⟨M3, hM3⟩ : ∃ M3 : Mem, M3 = M2 ++ [Slot.live ⟨[.slice none 0 0], true, true, 26, 1⟩, Slot.live ⟨[iv 0, iv 1], true, true, 34, 2⟩] := ⟨_, rfl⟩
  have hput1 : putCells M.length (M2 ++ [Slot.live ⟨[.slice none 0 0], true, true, 26, 1⟩, Slot.live ⟨[iv 0, iv 0], true, true, 34, 2⟩]) M2.length 0 [.slice none 0 0] = some (M2 ++ [Slot.live ⟨[.slice none 0 0], true, true, 26, 1⟩, Slot.live ⟨[iv 0, iv 0], true, true, 34, 2⟩]) := by
    have hr : (M2 ++ [Slot.live ⟨[.slice none 0 0], true, true, 26, 1⟩, Slot.live ⟨[iv 0, iv 0], true, true, 34, 2⟩])[M2.length]? = some (Slot.live ⟨[.slice none 0 0], true, true, 26, 1⟩) := by simp
    rw [put_whole (vs := [.slice none 0 0]) hr (by omega) rfl (by simp)]
    simp
  have hput2 : putCells M.length (M2 ++ [Slot.live ⟨[.slice none 0 0], true, true, 26, 1⟩, Slot.live ⟨[iv 0, iv 0], true, true, 34, 2⟩]) (M2.length + 1) 0 [iv 0, iv 1] = some M3 := by
    have hr : (M2 ++ [Slot.live ⟨[.slice none 0 0], true, true, 26, 1⟩, Slot.live ⟨[iv 0, iv 0], true, true, 34, 2⟩])[M2.length + 1]? = some (Slot.live ⟨[iv 0, iv 0], true, true, 34, 2⟩) := by simp
    rw [put_whole (vs := [iv 0, iv 1]) hr (by omega) rfl (by simp), hM3]
    simp
  rw [hput1, ow_some]
  refine ⟨rfl, ?_⟩
  rw [show (Frac.v ⟨0, 1⟩).cells.toList = [iv 0, iv 1] from rfl, hput2, ow_some]
  have k23 : Keeps M2 M3 := by rw [hM3]; exact keeps_app _
  have l3 : M3.length = M2.length + 2 := by rw [hM3]; simp
  have r30 : M3[M2.length]? = some (.live ⟨[.slice none 0 0], true, true, 26, 1⟩) := by rw [hM3]; simp
  have r31 : M3[M2.length + 1]? = some (.live ⟨[iv 0, iv 1], true, true, 34, 2⟩) := by rw [hM3]; simp
  clear hput1 hput2 hM3
  have hql : qs.length = (flatI l).length := by rw [← hqs, List.length_map]
  have hq80 : qs.length ≤ 80 := by rw [hql, flat_len _ _ (Nat.le_refl _)]; exact hc
  refine awLoop_T (fun m T M' => ∃ (k : Nat) (a : Frac) (u : Int) (v : Value) (acc rest : List Note), k + m = qs.length ∧ Keeps M2 M' ∧ M2.length + 2 ≤ M'.length ∧ M'[M2.length]? = some (.live ⟨[v], true, true, 26, 1⟩) ∧ M'[M2.length + 1]? = some (.live ⟨[iv a.n, iv a.d], true, true, 34, 2⟩) ∧ Acc noteR 36 (M2.length + 2) M' v acc ∧ PlG ch a u ((flatI l).drop k) rest ∧ ns = acc ++ rest ∧
      look T 33 = some (iv k) ∧ look T 32 = some (iv qs.length) ∧ look T 31 = some (.slice A4 qs.length c4) ∧ look T 10 = some (iv u) ∧ look T 9 = some (.pointer (some ⟨M2.length + 1, 0, none⟩)) ∧ look T 8 = some (.pointer (some ⟨M2.length, 0, none⟩)) ∧ look T 5 = some (iv 0) ∧ look T 4 = some (.pointer (some ⟨M.length, 0, none⟩)) ∧ look T 1 = some (iv ch)) qs.length
    ⟨0, ⟨0, 1⟩, 80, _, [], ns, by omega, k23, by omega, r30, r31, .nil, hp, rfl, by simp, by simp, by simp, by simp, by simp, by simp, by simp, by simp, by simp⟩ ?_
  clear r30 r31 k23 l3
  rintro m T M4 ⟨k, a, u, v, acc, rest, hm, hK, hl4, r40, r41, hA, hpl, hns2, t33, t32, t31, t10, t9, t8, t5, t4, t1⟩
  have hal : acc.length ≤ 60 := by rw [hns2, List.length_append] at hns; omega
  by_cases hlt : k < qs.length
  case neg =>
    obtain rfl : k = qs.length := by omega
    rw [List.drop_of_length_le (by omega)] at hpl
    have hrest : rest = [] := by cases hpl; rfl
    subst hrest
    rw [List.append_nil] at hns2
    subst hns2
    obtain ⟨A6, n6, c6, rfl, hn6, -, -⟩ := hA.sl
    have c40 : cellAt M4 M2.length 0 = some (.slice A6 n6 c6) := by simp [cellAt, r40]
    have hn6' : ¬ (60 : Int) < n6 := by omega
    have cc40 : cellsAt M4 M2.length 0 1 = some [.slice A6 n6 c6] := cells_hrq r40 rfl
    have rr := hK.get (k12.get r1)
    have hpr := put_whole (b := M.length) (vs := [.slice A6 n6 c6]) rr (Nat.le_refl _) rfl (by simp)
    have lr := (List.getElem?_eq_some_iff.1 rr).1
    simp (disch := omega) [t33, t32, t31, t8, t4, t5, c40, hn6', cc40, hpr]
    rw [cells_hrq (n := 1) (List.getElem?_set_self lr) rfl, ow_some]
    exact ⟨_, rfl, (Same.set (B := M.length) (Nat.le_refl _)).keeps ((k01.trans k12).trans hK) (Nat.le_refl _), (hA.set_ne (by omega)).low (by omega)⟩
  have hlt' : (k : Int) < qs.length := by omega
  obtain ⟨id6, off6, c6, A6, n6, c6', ev, he60, hq2, ld60, hs6⟩ := hQ.at_ hlt
  have he6 := rowEsz_keeps hK he60
  have ld6 := cellsAt_keeps hK ld60
  injection ev with ev1 ev2 ev3
  subst ev1 ev3
  have hdrop : (flatI l).drop k = (el qs k).1 :: (flatI l).drop (k + 1) := by rw [drop_el (by omega), ← hqs, el_map _ hlt]
  rw [hdrop] at hpl
  obtain ⟨x, hx⟩ : ∃ x, x = (el qs k).1 := ⟨_, rfl⟩
  rw [← hx] at ld6 hs6 hpl
  have hxm : x ∈ l := flat_mem _ _ (Nat.le_refl _) _ (by rw [← hqs, hx]; exact List.mem_map.2 ⟨_, el_mem hlt, rfl⟩)
  have hxB : itemB x = true := by
    have h2 := hok
    unfold okI at h2
    rw [Bool.and_eq_true] at h2
    have := scanI_all l.length 3 l (Nat.le_refl _) h2.2 x hxm
    unfold itemI at this
    rw [Bool.and_eq_true] at this
    exact this.1
  have hpb := itemB_pb hxB
  have hp6 := itemB_ps hxB
  simp (disch := omega) [t33, t32, t31, hlt, hlt', he6, ld6]
  obtain ⟨M5, hM5⟩ : ∃ M5 : Mem, M5 = M4 ++ [Slot.live ⟨[iv x.j, .slice A6 n6 c6', iv x.ln, iv x.ld, iv x.x, iv x.mt, iv x.mh, iv x.z], true, true, 60, 8⟩] := ⟨_, rfl⟩
  have k45 : Keeps M4 M5 := by rw [hM5]; exact keeps_app _
  have l5 : M5.length = M4.length + 1 := by rw [hM5]; simp
  have r5 : M5[M4.length]? = some (.live ⟨[iv x.j, .slice A6 n6 c6', iv x.ln, iv x.ld, iv x.x, iv x.mt, iv x.mh, iv x.z], true, true, 60, 8⟩) := by rw [hM5]; simp
  rw [← hM5]
  clear hM5
  have b1 : cellAt M5 M4.length 1 = some (.slice A6 n6 c6') := by simp [cellAt, r5]
  have b4 : cellAt M5 M4.length 4 = some (iv x.x) := by simp [cellAt, r5]
  have b2 : cellsAt M5 M4.length 2 2 = some [iv x.ln, iv x.ld] := by simp [cellsAt, r5]
  by_cases hj3 : x.j = 3
  · have hpl2 : PlG ch a x.x ((flatI l).drop (k + 1)) rest := by
      cases hpl with
      | loud _ h => exact h
      | sound h => exact absurd hj3 h
    simp (disch := omega) [hj3, b4, t33, wrap_in]
    exact lpI (m - 1) (by omega) ⟨k + 1, a, x.x, v, acc, rest, by omega, hK.trans k45, by omega, k45.get r40, k45.get r41, hA.keeps k45, hpl2, hns2, by simp, by simp [t32], by simp [t31], by simp, by simp [t9], by simp [t8], by simp [t5], by simp [t4], by simp [t1]⟩
  obtain ⟨rest2, hvn, haf, hpl2, hrest⟩ : ∃ rest2, (∀ n, n ∈ plN a u ch x → noteB n = true) ∧ (addF a x.len).2 = 0 ∧ PlG ch (addF a x.len).1 u ((flatI l).drop (k + 1)) rest2 ∧ rest = plN a u ch x ++ rest2 := by
    cases hpl with
    | loud h => exact absurd h hj3
    | sound _ h1 h2 h3 => exact ⟨_, h1, h2, h3, rfl⟩
  simp (disch := omega) [hj3, b1]
  have hn6 := hs6.1
  have hplen : (plN a u ch x).length = n6 := by unfold plN; rw [List.length_map]; exact hn6
  refine awLoop_T (fun m T M' => ∃ (j : Nat) (v : Value), j + m = n6 ∧ Keeps M2 M' ∧ M4.length + 1 ≤ M'.length ∧ M'[M2.length]? = some (.live ⟨[v], true, true, 26, 1⟩) ∧ M'[M2.length + 1]? = some (.live ⟨[iv a.n, iv a.d], true, true, 34, 2⟩) ∧ M'[M4.length]? = some (.live ⟨[iv x.j, .slice A6 n6 c6', iv x.ln, iv x.ld, iv x.x, iv x.mt, iv x.mh, iv x.z], true, true, 60, 8⟩) ∧ Apart v M4.length ∧ Acc noteR 36 (M2.length + 2) M' v (acc ++ (plN a u ch x).take j) ∧
      look T 12 = some (.pointer (some ⟨M4.length, 0, none⟩)) ∧ look T 45 = some (iv j) ∧ look T 44 = some (iv n6) ∧ look T 43 = some (.slice A6 n6 c6') ∧ look T 33 = some (iv k) ∧ look T 32 = some (iv qs.length) ∧ look T 31 = some (.slice (some ⟨id6, off6, none⟩) qs.length c4) ∧ look T 10 = some (iv u) ∧ look T 9 = some (.pointer (some ⟨M2.length + 1, 0, none⟩)) ∧ look T 8 = some (.pointer (some ⟨M2.length, 0, none⟩)) ∧ look T 5 = some (iv 0) ∧ look T 4 = some (.pointer (some ⟨M.length, 0, none⟩)) ∧ look T 1 = some (iv ch)) n6
    ⟨0, v, by omega, hK.trans k45, by omega, k45.get r40, k45.get r41, r5, hA.apartM (Nat.le_refl _), by simpa using hA.keeps k45, by simp, by simp, by simp, by simp, by simp [t33], by simp [t32], by simp [t31], by simp [t10], by simp [t9], by simp [t8], by simp [t5], by simp [t4], by simp [t1]⟩ ?_
  clear t33 t32 t31 t10 t9 t8 t5 t4 t1 r40 r41 b1 b4 b2 r5 hA ld6 he6
  rintro m3 T3 M6 ⟨j, v6, hm3, hK6, hl6, r60, r61, r6x, a6, hA, t12, t45, t44, t43, t33, t32, t31, t10, t9, t8, t5, t4, t1⟩
  by_cases hj : j < n6
  case neg =>
    obtain rfl : j = n6 := by omega
    rw [List.take_of_length_le (by omega)] at hA
    have cx2 : cellsAt M6 M4.length 2 2 = some [iv x.ln, iv x.ld] := by simp [cellsAt, r6x]
    have ca : cellsAt M6 (M2.length + 1) 0 2 = some [iv a.n, iv a.d] := cells_hrq r61 rfl
    simp (disch := omega) [t45, t44, t9, t12, ca, cx2]
    refine awCall_det' (AddFrac_i a x.len) (by omega) ?_
    simp (disch := omega) [t45, t44, t9, haf]
    have hpa := put_whole (b := M.length) (vs := [iv (addF a x.len).1.n, iv (addF a x.len).1.d]) r61 (by omega) rfl (by simp)
    have l61 := (List.getElem?_eq_some_iff.1 r61).1
    simp (disch := omega) [hpa, t33, wrap_in]
    exact lpI (m - 1) (by omega) ⟨k + 1, (addF a x.len).1, u, v6, acc ++ plN a u ch x, rest2, by omega, (Same.set (B := M2.length) (by omega)).keeps hK6 (Nat.le_refl _), by simp; omega, by rw [List.getElem?_set_ne (by omega)]; exact r60, List.getElem?_set_self l61, hA.set_ne (by omega), hpl2, by rw [hns2, hrest, List.append_assoc], by simp, by simp [t32], by simp [t31], by simp [t10], by simp [t9], by simp [t8], by simp [t5], by simp [t4], by simp [t1]⟩
  have hj' : (j : Int) < n6 := by omega
  obtain ⟨_, _, e3, he3, hc3⟩ := (hs6.keeps hK6).at_ hj
  cases e3
  have ldp := pitch_load hc3
  simp (disch := omega) [t45, t44, t43, hj, hj', he3, ldp]
  have cx2 : cellsAt M6 M4.length 2 2 = some [iv x.ln, iv x.ld] := by simp [cellsAt, r6x]
  have ca : cellsAt M6 (M2.length + 1) 0 2 = some [iv a.n, iv a.d] := cells_hrq r61 rfl
  obtain ⟨p, hpe⟩ : ∃ p, p = el x.ps j := ⟨_, rfl⟩
  have hpB := hpb j (by omega)
  rw [← hpe] at ldp hpB ⊢
  obtain ⟨p1, p2, p3, p4⟩ := pitchB_r hpB
  obtain ⟨M7, hM7⟩ : ∃ M7 : Mem, M7 = M6 ++ [Slot.live ⟨[iv p.s, iv p.a, iv p.o], true, true, 62, 3⟩] := ⟨_, rfl⟩
  have k67 : Keeps M6 M7 := by rw [hM7]; exact keeps_app _
  have l7 : M7.length = M6.length + 1 := by rw [hM7]; simp
  have bp : cellsAt M7 M6.length 0 3 = some [iv p.s, iv p.a, iv p.o] := by rw [hM7]; simp
  rw [← hM7]
  clear hM7
  have cx7 := cellsAt_keeps k67 cx2
  have ca7 := cellsAt_keeps k67 ca
  refine awDraw_M 9 [[],[],[1],[],[3],[],[],[0,2,1,4,3,5,6],[],[8,7,0,2,1,4,3,5,6]] [] (by kernel_rfl) (by decide +kernel) (by decide +kernel) ?_
  simp (disch := omega) [t9, t12, ca7, cx7, t10, t1, bp]
  refine awCall_det' (keyOf_i p p1 p2 p3) (by omega) ?_
  refine ⟨[], by simp, ?_⟩
  rw [n_build5, ow_some]
  refine ⟨[], by simp [maskP], ?_⟩
  simp (disch := omega) [t9, t12, t10, t1]
  obtain ⟨y, hy⟩ : ∃ y : Note, y = ⟨a.n, a.d, x.ln, x.ld, keyV p, u, ch⟩ := ⟨_, rfl⟩
  have hyj : el (plN a u ch x) j = y := by unfold plN; rw [el_map _ (by omega), ← hpe, hy]
  have hyB : noteB y = true := hvn y (by rw [← hyj]; exact el_mem (by omega))
  have hyr : ([iv a.n, iv a.d, iv x.ln, iv x.ld, iv (keyV p), iv u, iv ch] : List Value) = [iv y.an, iv y.ad, iv y.ln, iv y.ld, iv y.k, iv y.u, iv y.o] := by rw [hy]
  rw [hyr]
  obtain ⟨M8, hM8⟩ : ∃ M8 : Mem, M8 = M7 ++ [Slot.live ⟨[iv y.an, iv y.ad, iv y.ln, iv y.ld, iv y.k, iv y.u, iv y.o], true, true, 36, 7⟩] := ⟨_, rfl⟩
  have k78 : Keeps M7 M8 := by rw [hM8]; exact keeps_app _
  have l8 : M8.length = M7.length + 1 := by rw [hM8]; simp
  have by8 : cellsAt M8 M7.length 0 7 = some [iv y.an, iv y.ad, iv y.ln, iv y.ld, iv y.k, iv y.u, iv y.o] := by rw [hM8]; simp
  rw [← hM8]
  clear hM8
  have k68 := k67.trans k78
  have hK2l := hK6.len
  refine awCall_det' (isNote_i y) (by omega) ?_
  have r80 := k68.get r60
  obtain ⟨A7, n7, c7, rfl, hn7, -, -⟩ := hA.sl
  have c80 : cellAt M8 M2.length 0 = some (.slice A7 n7 c7) := by simp [cellAt, r80]
  simp (disch := omega) [hyB, t8, c80, by8]
  have kx : Keeps M8 (M8 ++ [Slot.live ⟨[iv y.an, iv y.ad, iv y.ln, iv y.ld, iv y.k, iv y.u, iv y.o], true, true, 36, 7⟩]) := keeps_app _
  have htk : (acc ++ (plN a u ch x).take j).length ≤ 66 := by rw [List.length_append, List.length_take]; omega
  refine (hA.keeps (k68.trans kx)).append2 (R := noteR) (e := 36) (by_ := 56) (a := y) (by omega) (by simp; omega) (by omega) (by simp) (by kernel_rfl) (by simp [srcOf, Tryz.underlying24, noteR, Note.row]) (by rfl) (by omega) (by unfold maxLen; omega) ?_
  intro v' M9 g1 g2 g3
  have r90 := g2.2 M2.length _ (by omega) (kx.get r80)
  have r91 := g2.2 (M2.length + 1) _ (by omega) (kx.get (k68.get r61))
  obtain ⟨r9x, a9x⟩ := g3 _ _ a6 (kx.get (k68.get r6x))
  have gl := g2.1
  simp only [List.length_append, List.length_singleton] at gl
  obtain ⟨A8, n8, c8, rfl, hn8, -, -⟩ := g1.sl
  have hpu := put_whole (b := M.length) (vs := [.slice A8 n8 c8]) r90 (by omega) rfl (by simp)
  have l90 := (List.getElem?_eq_some_iff.1 r90).1
  simp (disch := omega) [hpu, t45, wrap_in]
  refine lpI (m3 - 1) (by omega) ⟨j + 1, _, by omega, ((g2.low (B' := M2.length) (by omega)).trans (Same.set (Nat.le_refl _))).keeps ((hK6.trans k68).trans kx) (Nat.le_refl _), by simp; omega, List.getElem?_set_self l90, by rw [List.getElem?_set_ne (by omega)]; exact r91, by rw [List.getElem?_set_ne (by omega)]; exact r9x, a9x, ?_, by simp [t12], by simp, by simp [t44], by simp [t43], by simp [t33], by simp [t32], by simp [t31], by simp [t10], by simp [t9], by simp [t8], by simp [t5], by simp [t4], by simp [t1]⟩
  rw [take_el (by omega), hyj, ← List.append_assoc]
  exact g1.set_ne (by omega)
end Go.Proofs.YtodbjnngkonklaaGreat
