/- Gates: the program's allocation. No conditions. -/
import Derived.Test.YtdcfofaojalilaaG10
namespace Go.Proofs.Ytdcfofaojalilaa
open Go.RowKit
set_option linter.unusedVariables false
set_option linter.unusedSimpArgs false
set_option maxRecDepth 100000
attribute [local simp] List.getElem?_cons_zero
attribute [local irreducible] awCond awCall awLoop awDraw ow retQ retC resQ Keeps
theorem CloneGate_d {M : Mem} {A : Option Addr} {n c : Nat} {l : List Gate} (h : Sl gateR M A n l) (hn : n ≤ 1048576) : ∃ A' c' N, Det Try.prog M.length 63 [.slice A n c] M (.slice A' n c') (M ++ N) ∧ (0 < n → ∃ gid t, A' = some ⟨gid, 0, none⟩ ∧ M.length ≤ gid ∧ gid < (M ++ N).length ∧ (M ++ N)[gid]? = some (.live ⟨cellsL gateR l, true, t, 45, 5⟩)) := by
  have hl := h.1
  rcases A with _ | ad
  · have h0 : n = 0 := by
      rcases Nat.eq_zero_or_pos n with e | e
      · exact e
      · obtain ⟨_, _, e', _⟩ := h.2 e
        cases e'
    subst h0
    refine ⟨none, 0, [], Ctr.det ?_, fun h => by omega⟩
    first | (refine ctr_fn Try.func63 rfl Try.ntmps63 Try.results63 rfl rfl (by simp) ?_) | (refine ctr_fnC Try.func63 rfl Try.ntmps63 Try.results63 rfl (by simp) ?_)
    simp [nil_eq Try.underlying25]
  · by_cases h0 : n = 0
    · subst h0
      obtain rfl := List.eq_nil_of_length_eq_zero hl
      refine ⟨some ⟨M.length, 0, none⟩, 0, [.live ⟨[], true, true, 45, 5⟩], Ctr.det ?_, fun h => by omega⟩
      first | (refine ctr_fn Try.func63 rfl Try.ntmps63 Try.results63 rfl rfl (by simp) ?_) | (refine ctr_fnC Try.func63 rfl Try.ntmps63 Try.results63 rfl (by simp) ?_)
      simp [nil_eq Try.underlying25]
      refine append_new (R := gateR) (e := 45) (by_ := 40) (ls := []) (by simp) (by simp) (by kernel_rfl) ((h.app _).src (by omega) ⟨_, Try.underlying25⟩) (gate_one _) (by simp) (by simp) (fun _ => ?_) (fun h => absurd rfl h)
      simp
    · refine ⟨some ⟨M.length + 1, 0, none⟩, n, [.live ⟨[], true, true, 45, 5⟩, .live ⟨cellsL gateR l, true, false, 45, 5⟩], Ctr.det ?_, fun _ => ⟨M.length + 1, false, rfl, by omega, by simp, by simp⟩⟩
      first | (refine ctr_fn Try.func63 rfl Try.ntmps63 Try.results63 rfl rfl (by simp) ?_) | (refine ctr_fnC Try.func63 rfl Try.ntmps63 Try.results63 rfl (by simp) ?_)
      simp [nil_eq Try.underlying25]
      refine append_new (R := gateR) (e := 45) (by_ := 40) (ls := l) (by simp) (by simp) (by kernel_rfl) ((h.app _).src (by omega) ⟨_, Try.underlying25⟩) (gate_one _) (by omega) (by unfold maxLen; omega) (fun h => by rw [h] at hl; simp at hl; omega) (fun _ => ?_)
      simp [hl]
theorem cells_set_o {l : List Gate} {j : Nat} {x : Int} (h : j < l.length) : (cellsL gateR l).set (j * 5) (iv x) = cellsL gateR (l.set j { el l j with o := x }) := by
  have e1 : l = l.take j ++ (el l j :: l.drop (j + 1)) := by
    conv => lhs; rw [← List.take_append_drop j l, drop_el h]
  have hl : (l.take j).length = j := by simp; omega
  have e2 : l.set j { el l j with o := x } = l.take j ++ ({ el l j with o := x } :: l.drop (j + 1)) := by
    conv => lhs; rw [e1]
    rw [List.set_append_right _ _ (by omega), hl, Nat.sub_self]
    simp [hl, el_append_right]
    rw [show el (el l j :: List.drop (j + 1) l) 0 = el l j from rfl]
    exact ⟨rfl, rfl, rfl, rfl⟩
  rw [e2]
  conv => lhs; rw [e1]
  have e3 : (cellsL gateR (l.take j)).length = j * 5 := by rw [cellsL_len, hl]
  rw [cellsL_append, cellsL_append, cellsL_cons, cellsL_cons, List.set_append_right _ _ (by omega), e3, Nat.sub_self]
  rfl
theorem AlM.setLast {B : Nat} {M : Mem} {b aid rid lid k : Nat} {u : Value} {gs : List Gate} {rm : List Bool} {ls : List Int} {sh x : Int} (h : AlM B M aid rid lid u gs rm ls sh) (hb : b ≤ B) (hk : k < ls.length) : ∃ M', putCells b M lid k [iv x] = some M' ∧ AlM B M' aid rid lid u gs rm (ls.set k x) sh ∧ Turn B (aid + 1) M M' := by
  obtain ⟨i1, i2, i3⟩ := h.ids
  refine ⟨_, put_at h.lrow (by omega) (by simpa using hk) rfl, ⟨?_, ?_, ?_, ?_, h.ids⟩, by simp, fun i y hy hi => by rw [List.getElem?_set_ne (by omega)]; exact hy⟩
  · rw [List.getElem?_set_ne (by omega)]; simpa using h.arow
  · rw [List.getElem?_set_ne (by omega)]; exact h.rrow
  · rw [List.getElem?_set_self (List.getElem?_eq_some_iff.1 h.lrow).1, List.map_set]
  · obtain ⟨A, c, e, hg⟩ := h.grow
    refine ⟨A, c, e, fun h0 => ?_⟩
    obtain ⟨gid, t, e1, e2, e3, e4⟩ := hg h0
    exact ⟨gid, t, e1, e2, e3, by rw [List.getElem?_set_ne (by omega)]; exact e4⟩
theorem AlM.setVoice {B : Nat} {M : Mem} {b aid rid lid k : Nat} {A : Option Addr} {n c : Nat} {gs : List Gate} {rm : List Bool} {ls : List Int} {sh x : Int} (h : AlM B M aid rid lid (.slice A n c) gs rm ls sh) (hb : b ≤ B) (hk : k < gs.length) : ∃ gid M', A = some ⟨gid, 0, none⟩ ∧ n = gs.length ∧ rowEsz M gid = some 5 ∧ putCells b M gid (k * 5) [iv x] = some M' ∧ AlM B M' aid rid lid (.slice A n c) (gs.set k { el gs k with o := x }) rm ls sh ∧ Turn B (aid + 1) M M' := by
  obtain ⟨i1, i2, i3⟩ := h.ids
  obtain ⟨A', c', e, hg⟩ := h.grow
  injection e with e1 e2 e3
  subst e1; subst e2; subst e3
  obtain ⟨gid, t, rfl, g2, g3, g4⟩ := hg (by omega)
  have hp := put_at (b := b) (p := k * 5) (v := iv x) g4 (by omega) (by rw [cellsL_len]; omega) rfl
  rw [cells_set_o hk] at hp
  refine ⟨gid, _, rfl, rfl, by simp [rowEsz, g4], hp, ⟨?_, ?_, ?_, ⟨_, c, by simp, fun _ => ⟨gid, t, rfl, g2, g3, by rw [List.getElem?_set_self (List.getElem?_eq_some_iff.1 g4).1]⟩⟩, h.ids⟩, by simp, fun i y hy hi => by rw [List.getElem?_set_ne (by omega)]; exact hy⟩
  · rw [List.getElem?_set_ne (by omega)]; exact h.arow
  · rw [List.getElem?_set_ne (by omega)]; exact h.rrow
  · rw [List.getElem?_set_ne (by omega)]; exact h.lrow
theorem AlM.same {B : Nat} {M M' : Mem} {aid rid lid : Nat} {u : Value} {gs : List Gate} {rm : List Bool} {ls : List Int} {sh : Int} (h : AlM B M aid rid lid u gs rm ls sh) (hs : Same (aid + 1) M M') : AlM B M' aid rid lid u gs rm ls sh := by
  obtain ⟨i1, i2, i3⟩ := h.ids
  obtain ⟨A, c, e, hg⟩ := h.grow
  exact ⟨hs.2 _ _ (by omega) h.arow, hs.2 _ _ (by omega) h.rrow, hs.2 _ _ (by omega) h.lrow, ⟨A, c, e, fun h0 => by
    obtain ⟨gid, t, e1, e2, e3, e4⟩ := hg h0
    exact ⟨gid, t, e1, e2, e3, hs.2 _ _ (by omega) e4⟩⟩, h.ids⟩
theorem al_build (A A2 A3 : Option Addr) (n c n2 c2 n3 c3 : Nat) : Instr.fill (fun x => [(0, 1), (1, 1), (2, 1), (3, 1)][x]?) #[.slice none 0 0, .slice none 0 0, .slice none 0 0, iv 0] [(0, .slice A n c), (1, .slice A2 n2 c2), (2, .slice A3 n3 c3)] = some #[.slice A n c, .slice A2 n2 c2, .slice A3 n3 c3, iv 0] := by rfl
set_option maxHeartbeats 4000000 in
theorem allocate_a {M : Mem} {A : Option Addr} {n c : Nat} {l : List Gate} (V : Nat) (h : Sl gateR M A n l) (hok : okG l = true) (hn : n ≤ 60) (hV : 1 ≤ V ∧ V ≤ 4) : Ctr Try.prog M.length 57 [.slice A n c, iv V] M fun r M' => ∃ v0, r = .tuple #[v0, iv (allocP V l).2] ∧ Fresh gateR M v0 M' (allocP V l).1 := by
  have hl := h.1
  obtain ⟨A', c', N, dcl, hcl⟩ := CloneGate_d (c := c) h (by omega)
  first | (refine ctr_fn Try.func57 rfl Try.ntmps57 Try.results57 rfl rfl (by simp) ?_) | (refine ctr_fnC Try.func57 rfl Try.ntmps57 Try.results57 rfl (by simp) ?_)
  simp
  refine awDraw_D 7 [[],[0],[],[2],[3,2],[],[5],[1,0,4,3,2,6,5],[7,1,0,4,3,2,6,5],[8,7,1,0,4,3,2,6,5]] (by kernel_rfl) (by decide +kernel) ?_
  simp
  refine awCall_det' dcl (Nat.le_refl _) ?_
  simp (disch := omega) [al_build]
  refine ⟨⟨by omega, by omega⟩, ⟨by omega, by omega⟩, ?_⟩
  obtain ⟨P, hP⟩ : ∃ P : Mem, P = M ++ (N ++ [.live ⟨zrow [.bool false] n, true, true, 4, 1⟩, .live ⟨zrow [.int .i64 0] V, true, true, 3, 1⟩, .live ⟨[.slice A' n c', .slice (some ⟨M.length + N.length, 0, none⟩) n n, .slice (some ⟨M.length + (N.length + 1), 0, none⟩) V V, iv 0], true, true, 71, 4⟩]) := ⟨_, rfl⟩
  have hPg : ∀ q, P[M.length + (N.length + q)]? = ([.live ⟨zrow [.bool false] n, true, true, 4, 1⟩, .live ⟨zrow [.int .i64 0] V, true, true, 3, 1⟩, .live ⟨[.slice A' n c', .slice (some ⟨M.length + N.length, 0, none⟩) n n, .slice (some ⟨M.length + (N.length + 1), 0, none⟩) V V, iv 0], true, true, 71, 4⟩] : List Slot)[q]? := by
    intro q
    rw [hP, List.getElem?_append_right (by omega), show M.length + (N.length + q) - M.length = N.length + q by omega, List.getElem?_append_right (by omega), show N.length + q - N.length = q by omega]
  have hAl : AlM M.length P (M.length + (N.length + 2)) (M.length + N.length) (M.length + (N.length + 1)) (.slice A' n c') l (List.replicate n false) (List.replicate V 0) 0 := by
    refine ⟨?_, ?_, ?_, ⟨A', c', by rw [hl], fun h0 => ?_⟩, by omega, by omega, by omega⟩
    · rw [hPg 2]; simp
    · have := hPg 0
      rw [Nat.add_zero] at this
      rw [this, zrow_one]
      simp
    · rw [hPg 1]; simp [zrow_one]
    · obtain ⟨gid, t, e1, e2, e3, e4⟩ := hcl (by omega)
      refine ⟨gid, t, e1, e2, by simpa using e3, ?_⟩
      rw [hP, ← List.append_assoc, List.getElem?_append_left e3]
      exact e4
  have hKP : Keeps M P := by rw [hP]; exact keeps_app _
  rw [← hP]
  clear hPg hP dcl hcl
  generalize M.length + (N.length + 2) = aid at hAl ⊢
  generalize M.length + (N.length + 1) = lid at hAl ⊢
  generalize M.length + N.length = rid at hAl ⊢
  refine awLoop_T (fun m T M' => ∃ k : Nat, k + m = V ∧ Keeps M M' ∧ AlM M.length M' aid rid lid (.slice A' n c') l (List.replicate n false) (List.replicate k (-1) ++ List.replicate m 0) 0 ∧ look T 28 = some (iv k) ∧ look T 27 = some (iv V) ∧ look T 6 = some (.pointer (some ⟨aid, 0, none⟩)) ∧ look T 0 = some (.slice A n c) ∧ look T 1 = some (iv V)) V ⟨0, by omega, hKP, hAl, by simp, by simp, by simp, by simp, by simp⟩ ?_
  clear hAl hKP P
  rintro m T M' ⟨k, hm, hK, hAl, h28, h27, h6, h0, h1⟩
  have hKl := hK.len
  have hle : rowEsz M' lid = some 1 := by simp [rowEsz, hAl.lrow]
  by_cases hlt : k < V
  · obtain ⟨m, rfl⟩ : ∃ m', m = m' + 1 := ⟨m - 1, by omega⟩
    have hlen : (List.replicate k (-1 : Int) ++ List.replicate (m + 1) 0).length = V := by simp; omega
    have a2 : cellAt M' aid 2 = some (.slice (some ⟨lid, 0, none⟩) V V) := by
      have := hAl.arow
      rw [hlen] at this
      simp [cellAt, this]
    obtain ⟨M2, hput, hAl2, hT⟩ := hAl.setLast (b := M.length) (x := -1) (k := k) (Nat.le_refl _) (by omega)
    have hset : (List.replicate k (-1 : Int) ++ List.replicate (m + 1) 0).set k (-1) = List.replicate (k + 1) (-1) ++ List.replicate m 0 := by
      rw [List.set_append_right _ _ (by simp), List.length_replicate, Nat.sub_self, List.replicate_succ, List.set_cons_zero, List.replicate_succ' , List.append_assoc]
      rfl
    rw [hset] at hAl2
    have hlt' : (k : Int) < V := by omega
    simp (disch := omega) [h28, h27, h6, hlt', a2, hle, hput, wrap_in]
    refine lpI m (by omega) ?_
    exact ⟨k + 1, by omega, hT.keeps hK (Nat.le_refl _), hAl2, by simp, by simp [h27], by simp [h6], by simp [h0], by simp [h1]⟩
  · obtain rfl : k = V := by omega
    obtain rfl : m = 0 := by omega
    simp only [List.replicate_zero, List.append_nil] at hAl
    simp (disch := omega) [h28, h27, h6, h0]
    have hR0 := relA_zero (V := k) (l := l)
    rw [hl] at hR0
    refine awLoop_T (fun m T M' => ∃ (i : Nat) (gs : List Gate) (rm : List Bool) (ls : List Int), i + m = n ∧ Keeps M M' ∧ AlM M.length M' aid rid lid (.slice A' n c') gs rm ls (allocP k (l.take i)).2 ∧ RelA k i l gs rm ls (allocP k (l.take i)).1 ∧ look T 40 = some (iv i) ∧ look T 39 = some (iv n) ∧ look T 38 = some (.slice A n c) ∧ look T 6 = some (.pointer (some ⟨aid, 0, none⟩))) n ⟨0, l, _, _, by omega, hK, by simpa [allocP] using hAl, by simpa [allocP] using hR0, by simp, by simp, by simp, by simp [h6]⟩ ?_
    clear hAl hK hR0 hle hKl h28 h27 h6 h0 h1 hlt
    rintro m T M' ⟨i, gs, rm, ls, hm, hK, hAl, hR, h40, h39, h38, h6⟩
    have hKl := hK.len
    have hal := allocP_len k (l.take i) ([], 0)
    have hsh : 0 ≤ (allocP k (l.take i)).2 ∧ (allocP k (l.take i)).2 ≤ i := by
      have e : (l.take i).length ≤ i := by simp; omega
      unfold allocP
      simp only [List.length_nil] at hal
      omega
    by_cases hlt : i < n
    · have hst : allocP k (l.take (i + 1)) = stepS k (allocP k (l.take i)) (el l i) := by rw [take_el (by omega), allocP_snoc]
      rcases hP : allocP k (l.take i) with ⟨out, sh⟩
      rw [hP] at hst hR hAl hsh
      simp only at hR hAl hsh
      obtain ⟨id, off, rfl, he, hc⟩ := h.at_ hlt
      have hb := okG_el hok (el_mem (l := l) (i := i) (by omega))
      have hgl := hR.gl
      have hll := hR.ll
      have hrl := hR.rl
      have hlsb : ∀ v, v < k → el ls v = -1 ∨ ∃ j : Nat, el ls v = j ∧ j < gs.length := by
        intro v hv
        rcases hR.last v hv with ⟨q1, _⟩ | ⟨j, q1, q2, _⟩
        · exact .inl q1
        · exact .inr ⟨j, q2, by omega⟩
      have hlsm : ∀ x, x ∈ ls → x < 0 ∨ x.toNat < gs.length := by
        intro x hx
        obtain ⟨v, hv, rfl⟩ := List.getElem_of_mem hx
        rw [el_eq hv]
        rcases hlsb v (by omega) with e | ⟨j, e, hj⟩ <;> rw [e] <;> omega
      obtain ⟨al1, al2, al3⟩ := hAl.ids
      have hal' := (List.getElem?_eq_some_iff.1 hAl.arow).1
      simp (disch := omega) [h40, h39, h38, hlt, wrap_in, rowEsz_keeps hK he, gate_load (hc.keeps hK), h6]
      refine awCall_det' (free_a (el l i).s (hAl.keeps (keeps_app _)) hlsm (by omega) (by omega)) (by simp; omega) ?_
      rcases hR.free (el l i).s k (Nat.le_refl _) with ⟨f1, f2, f3⟩ | ⟨f, f0, f1, f2, f3⟩
      · have hfr : fstI (freeB gs (el l i).s) ls = -1 := fstI_none fun u hu => f2 u (by omega)
        simp (disch := omega) [hfr, h6]
        have hlsb2 : ∀ v, v < ls.length → 0 ≤ el ls v ∧ (el ls v).toNat < gs.length := by
          intro v hv
          have hf := f2 v (by omega)
          rcases hlsb v (by omega) with e | ⟨j, e, hj⟩
          · rw [e] at hf; simp [freeB] at hf
          · rw [e]; omega
        refine awCall_ctr (steal_a (B := M.length) (el l i).s (hAl.keeps (keeps_app _)) hlsb2 (by omega) (by omega) (by omega) (Nat.le_refl _) (by omega)) ?_
        rintro r M2 ⟨rfl, hAl2, hT2⟩
        rw [hll] at hAl2 ⊢
        obtain ⟨w, hw⟩ : ∃ w, w = oldV gs ls k := ⟨_, rfl⟩
        have hwl : w < k := by rcases oldV_lt gs ls k with h' | h' <;> omega
        rw [← hw] at hAl2 f3 ⊢
        rcases hR.at_ hwl with ⟨w1, w2⟩ | ⟨j, w1, w2, w3, w4, w5, w6⟩
        · have := hlsb2 w (by omega); omega
        rw [w2] at hAl2
        rw [show (j : Int).toNat = j by omega] at hAl2
        have hstep := hR.step_steal (sh := sh) (by omega) f1 f3 hwl w2
        have hK2 := hT2.keeps (hK.app _) (Nat.le_refl _)
        have hegi : el (gs.set j { el gs j with e := (el l i).s }) i = el l i := by rw [el_set_ne (by omega)]; exact (hR.rest i (Nat.le_refl _) (by omega)).2
        have b0 : cellAt M2 aid 0 = some (.slice A' n c') := by simp [cellAt, hAl2.arow]
        obtain ⟨gid, M3, rfl, hnn, hge3, hput3, hAl3, hT3⟩ := hAl2.setVoice (b := M.length) (x := ((w : Nat) : Int)) (k := i) (Nat.le_refl _) (by first | (simp; omega) | omega)
        rw [hegi] at hAl3
        obtain ⟨M4, hput4, hAl4, hT4⟩ := hAl3.setLast (b := M.length) (x := (i : Int)) (k := w) (Nat.le_refl _) (by omega)
        have b2 : cellAt M3 aid 2 = some (.slice (some ⟨lid, 0, none⟩) ls.length ls.length) := by simp [cellAt, hAl3.arow]
        have b3 : rowEsz M3 lid = some 1 := by simp [rowEsz, hAl3.lrow]
        have b4 : ((w : Nat) : Int) < ls.length := by omega
        have hK4 := hT4.keeps (hT3.keeps hK2 (Nat.le_refl _)) (Nat.le_refl _)
        simp (disch := omega) [h6, b0, hge3, hput3, b2, b3, b4, hput4, hlt, h40, wrap_in]
        refine lpI (m - 1) (by omega) ?_
        exact ⟨i + 1, _, _, _, by omega, hK4, by rw [hst, hstep.2]; exact hAl4, by rw [hst]; exact hstep.1, by simp, by simp [h39], by simp [h38], by simp [h6]⟩
      · have hfr : fstI (freeB gs (el l i).s) ls = f := fstI_some (by omega) f2 f3
        have hfn : ¬ ((f : Int) < 0) := by omega
        simp (disch := omega) [hfr, hfn, h6]
        have hAlb := hAl.keeps (keeps_app [.live ⟨[iv (el l i).o, iv (el l i).s, iv (el l i).e, iv (el l i).k, iv (el l i).u], true, true, 45, 5⟩])
        have hstep := hR.step_free (sh := sh) (by omega) f0 f1
        have hKb : Keeps M (M' ++ [.live ⟨[iv (el l i).o, iv (el l i).s, iv (el l i).e, iv (el l i).k, iv (el l i).u], true, true, 45, 5⟩]) := hK.app _
        have hegi : el gs i = el l i := (hR.rest i (Nat.le_refl _) (by omega)).2
        have b0 : cellAt (M' ++ [.live ⟨[iv (el l i).o, iv (el l i).s, iv (el l i).e, iv (el l i).k, iv (el l i).u], true, true, 45, 5⟩]) aid 0 = some (.slice A' n c') := by simp [cellAt, hAlb.arow]
        obtain ⟨gid, M3, rfl, hnn, hge3, hput3, hAl3, hT3⟩ := hAlb.setVoice (b := M.length) (x := ((f : Nat) : Int)) (k := i) (Nat.le_refl _) (by first | (simp; omega) | omega)
        rw [hegi] at hAl3
        obtain ⟨M4, hput4, hAl4, hT4⟩ := hAl3.setLast (b := M.length) (x := (i : Int)) (k := f) (Nat.le_refl _) (by omega)
        have b2 : cellAt M3 aid 2 = some (.slice (some ⟨lid, 0, none⟩) ls.length ls.length) := by simp [cellAt, hAl3.arow]
        have b3 : rowEsz M3 lid = some 1 := by simp [rowEsz, hAl3.lrow]
        have b4 : ((f : Nat) : Int) < ls.length := by omega
        have hK4 := hT4.keeps (hT3.keeps hKb (Nat.le_refl _)) (Nat.le_refl _)
        simp (disch := omega) [h6, b0, hge3, hput3, b2, b3, b4, hput4, hlt, h40, wrap_in]
        refine lpI (m - 1) (by omega) ?_
        exact ⟨i + 1, _, _, _, by omega, hK4, by rw [hst, hstep.2]; exact hAl4, by rw [hst]; exact hstep.1, by simp, by simp [h39], by simp [h38], by simp [h6]⟩
    · obtain rfl : i = n := by omega
      rw [List.take_of_length_le (by omega)] at hAl hR hsh
      have hgl := hR.gl
      have hrl := hR.rl
      have a0 : cellAt M' aid 0 = some (.slice A' i c') := by simp [cellAt, hAl.arow]
      have hal' := (List.getElem?_eq_some_iff.1 hAl.arow).1
      obtain ⟨al1, al2, al3⟩ := hAl.ids
      simp (disch := omega) [h40, h39, h6, a0, cellAt_app a0]
      refine awLoop_T (fun m T M2 => ∃ (q : Nat) (u : Value), q + m = i ∧ Keeps M M2 ∧ AlM M.length M2 aid rid lid (.slice A' i c') gs rm ls (allocP k l).2 ∧ Acc gateR 45 (aid + 1) M2 u (keepR gs rm q) ∧ look T 77 = some (iv q) ∧ look T 76 = some (iv i) ∧ look T 75 = some (.slice A' i c') ∧ look T 11 = some u ∧ look T 6 = some (.pointer (some ⟨aid, 0, none⟩))) i ⟨0, .slice (some ⟨M'.length, 0, none⟩) 0 0, by omega, hK.app _, hAl.keeps (keeps_app _), ⟨some ⟨M'.length, 0, none⟩, 0, 0, rfl, rfl, .inr ⟨M'.length, true, rfl, by omega, by simp [keepR, cellsL]⟩⟩, by simp, by simp, by simp, by simp, by simp [h6]⟩ ?_
      clear hK hAl a0 hal' h40 h39 h38 h6 hKl hlt hal
      rintro m T M2 ⟨q, u, hm, hK, hAl, hA, h77, h76, h75, h11, h6⟩
      have hKl := hK.len
      have hal' := (List.getElem?_eq_some_iff.1 hAl.arow).1
      have hkl := keepR_len_le gs rm (j := q) (i := q) (Nat.le_refl _)
      have hkb : ∀ q, (keepR gs rm q).length ≤ q := by
        intro q
        induction q with
        | zero => simp [keepR]
        | succ q ih => rw [keepR, List.length_append]; split <;> simp <;> omega
      have hkq := hkb q
      by_cases hlt : q < i
      · obtain ⟨A2, c2, e2, hsl⟩ := hAl.gsl
        injection e2 with e3 e4 e5
        subst e3; subst e5
        obtain ⟨gid, goff, rfl, hge, hgc⟩ := hsl.at_ (i := q) (by omega)
        have b1 : cellAt M2 aid 1 = some (.slice (some ⟨rid, 0, none⟩) rm.length rm.length) := by simp [cellAt, hAl.arow]
        have b2 : rowEsz M2 rid = some 1 := by simp [rowEsz, hAl.rrow]
        have b3 : cellAt M2 rid q = some (.bool (el rm q)) := by
          simp only [cellAt, hAl.rrow, List.getElem?_map]
          rw [el_some (by omega)]
          rfl
        have n1 : (q : Int) < rm.length := by omega
        have hb4 : rowEsz (M2 ++ [.live ⟨[iv (el gs q).o, iv (el gs q).s, iv (el gs q).e, iv (el gs q).k, iv (el gs q).u], true, true, 45, 5⟩]) rid = some 1 := rowEsz_keeps (keeps_app _) b2
        simp (disch := omega) [h77, h76, h75, h6, hlt, hge, gate_load hgc, wrap_in, cellAt_app b1, hb4, n1, cellAt_app b3]
        cases hrq : el rm q
        · simp (disch := omega) [h11]
          refine Acc.append (R := gateR) (e := 45) (by_ := 40) (a := el gs q) (hA.keeps (keeps_app _)) (by omega) (by simp; omega) (by omega) (by simp) (by kernel_rfl) (by simp [srcOf, gateR, Gate.row]) (by rfl) (by omega) (by unfold maxLen; omega) ?_
          intro v' M3 hA3 hS3
          try simp (disch := omega) [h77, wrap_in]
          refine lpI (m - 1) (by omega) ?_
          exact ⟨q + 1, v', by omega, hS3.keeps (hK.app _) (by omega), (hAl.keeps (keeps_app _)).same hS3, by rw [keepR, if_neg (by rw [hrq]; simp)]; exact hA3, by simp, by simp [h76], by simp [h75], by simp, by simp [h6]⟩
        · simp (disch := omega) [h77, wrap_in]
          refine lpI (m - 1) (by omega) ?_
          exact ⟨q + 1, u, by omega, hK.app _, hAl.keeps (keeps_app _), by rw [keepR, if_pos hrq, List.append_nil]; exact hA.keeps (keeps_app _), by simp, by simp [h76], by simp [h75], by simp [h11], by simp [h6]⟩
      · obtain rfl : q = i := by omega
        have a3 : cellAt M2 aid 3 = some (iv (allocP k l).2) := by simp [cellAt, hAl.arow]
        simp (disch := omega) [h77, h76, h75, h6, h11]
        refine awDraw_E 6 [[],[],[1],[2,1],[3,2,1],[0],[4,3,2,1,5,0]] (by kernel_rfl) (by kernel_rfl) ?_
        simp (disch := omega) [h6, h11, a3]
        rw [hR.out_]
        exact (hA.low (B' := M.length) (by omega)).fresh (by omega) hK
theorem AllocateVoices_i {M : Mem} {A : Option Addr} {n c : Nat} {l : List Gate} (V : Int) (h : Sl gateR M A n l) (hn : n ≤ 1048576) : Ctr Try.prog M.length 34 [.slice A n c, iv V] M fun r M' => ∃ v0, r = .tuple #[v0, iv (alV l V).2.1, iv (alV l V).2.2] ∧ OwL gateR M.length M'.length M' v0 (alV l V).1 ∧ Keeps M M' := by
  have hl := h.1
  first | (refine ctr_fn Try.func34 rfl Try.ntmps34 Try.results34 rfl rfl (by simp) ?_) | (refine ctr_fnC Try.func34 rfl Try.ntmps34 Try.results34 rfl (by simp) ?_)
  simp
  refine awCall_det' (areGates_a h (by omega)) (by simp) ?_
  by_cases hok : okG l = true
  · have h60 := okG_len60 hok
    simp [hok]
    refine awCall_det' (within_a _ _ _) (by simp) ?_
    by_cases hv : inB V 1 4 = true
    · have hb := inB_iff.1 hv
      obtain ⟨q, rfl⟩ := Int.eq_ofNat_of_zero_le (show 0 ≤ V by omega)
      simp [hv]
      refine awCall_ctr (allocate_a q h hok (by omega) (by omega)) ?_
      rintro r M' ⟨v0, rfl, hf⟩
      simp
      exact ⟨v0, ⟨rfl, by simp [alV, hok, hv], by simp [alV, hok, hv]⟩, by simpa [alV, hok, hv] using hf.ow.1, hf.ow.2⟩
    · simp at hv
      simp [hv]
      exact ⟨_, ⟨rfl, by simp [alV, hok, hv], by simp [alV, hok, hv]⟩, by simpa [alV, hok, hv] using OwL.nil, Keeps.refl _⟩
  · simp at hok
    simp [hok]
    exact ⟨_, ⟨rfl, by simp [alV, hok], by simp [alV, hok]⟩, by simpa [alV, hok] using OwL.nil, Keeps.refl _⟩
theorem AllocateVoices_sl {M : Mem} {v : Value} {lo hi : Nat} {x : List Gate} (hx : RdL gateR lo hi M v x) (o : Int) (ex : x.length ≤ 1048576) : Ctr Try.prog M.length 31 [v, iv o] M fun r M' => ∃ v0, r = .tuple #[v0, iv (alV x o).2.1, iv (alV x o).2.2] ∧ OwL gateR M.length M'.length M' v0 (alV x o).1 ∧ Keeps M M' := by
  obtain ⟨A, n, c, rfl, hn, hS, _⟩ := hx
  exact AllocateVoices_s o hS (by have := hS.1; omega)
theorem AllocateVoices_il {M : Mem} {v : Value} {lo hi : Nat} {x : List Gate} (hx : RdL gateR lo hi M v x) (o : Int) (ex : x.length ≤ 1048576) : Ctr Try.prog M.length 34 [v, iv o] M fun r M' => ∃ v0, r = .tuple #[v0, iv (alV x o).2.1, iv (alV x o).2.2] ∧ OwL gateR M.length M'.length M' v0 (alV x o).1 ∧ Keeps M M' := by
  obtain ⟨A, n, c, rfl, hn, hS, _⟩ := hx
  exact AllocateVoices_i o hS (by have := hS.1; omega)
/-- The least number of voices, from v on, of f numbers. -/
def needF (l : List Gate) : Nat → Nat → Int × Int
  | 0, _ => (0, 3)
  | f + 1, v => if (allocP v l).2 = 0 then ((v : Int), 0) else needF l f (v + 1)
def needV (l : List Gate) : Int × Int := if okG l = false then (0, 1) else needF l 4 1
theorem NeededVoices_s {M : Mem} {A : Option Addr} {n c : Nat} {l : List Gate} (h : Sl gateR M A n l) (hn : n ≤ 1048576) : Det Try.prog M.length 36 [.slice A n c] M (.tuple #[iv (needV l).1, iv (needV l).2]) M := by
  have hl := h.1
  first | (refine det_fn Try.func36 rfl Try.ntmps36 Try.results36 rfl rfl rfl (by simp) ?_) | (refine det_fnC Try.func36 rfl Try.ntmps36 Try.results36 rfl rfl (by simp) ?_)
  simp
  refine awCall_det' (l21Ok_a h (by omega)) (by simp) ?_
  by_cases hok : okG l = true
  · have h60 := okG_len60 hok
    simp [hok]
    refine awLoop_T (fun m T M' => ∃ v : Nat, v + m = 5 ∧ 1 ≤ v ∧ Keeps M M' ∧ needF l 4 1 = needF l m v ∧ look T 4 = some (iv v) ∧ look T 0 = some (.slice A n c)) 4 ⟨1, by omega, by omega, Keeps.refl _, rfl, by simp, by simp⟩ ?_
    rintro m T M' ⟨v, hm, hv1, hK, hnd, h4, h0⟩
    have hKl := hK.len
    rcases m with _ | m
    · have hlt : ¬ ((v : Int) ≤ 4) := by omega
      have hlt' : ¬ (v ≤ 4) := by omega
      simp (disch := omega) [h4, hlt, hlt']
      have e : needV l = (0, 3) := by unfold needV; rw [hok, hnd]; rfl
      simp [e, hK]
    · have hlt : (v : Int) ≤ 4 := by omega
      have hlt' : v ≤ 4 := by omega
      simp (disch := omega) [h4, h0, hlt, hlt']
      refine awCall_ctr ((l21Allocate_a v (h.keeps hK) hok (by omega) (by omega)).weaken hKl) ?_
      rintro r M2 ⟨v0, rfl, hf⟩
      have hK2 := hK.trans hf.ow.2
      by_cases hz : (allocP v l).2 = 0
      · have e : needV l = ((v : Int), 0) := by unfold needV; rw [hok, hnd, needF, if_pos hz]; rfl
        simp (disch := omega) [hz, h4]
        simp [e, hK2]
      · simp (disch := omega) [hz, h4, wrap_in]
        refine lpI m (by omega) ?_
        exact ⟨v + 1, by omega, by omega, hK2, by rw [hnd, needF, if_neg hz], by simp, by simp [h0]⟩
  · simp at hok
    simp [hok, needV, Keeps.refl]
theorem NeededVoices_i {M : Mem} {A : Option Addr} {n c : Nat} {l : List Gate} (h : Sl gateR M A n l) (hn : n ≤ 1048576) : Det Try.prog M.length 35 [.slice A n c] M (.tuple #[iv (needV l).1, iv (needV l).2]) M := by
  have hl := h.1
  first | (refine det_fn Try.func35 rfl Try.ntmps35 Try.results35 rfl rfl rfl (by simp) ?_) | (refine det_fnC Try.func35 rfl Try.ntmps35 Try.results35 rfl rfl (by simp) ?_)
  simp
  refine awCall_det' (areGates_a h (by omega)) (by simp) ?_
  by_cases hok : okG l = true
  · have h60 := okG_len60 hok
    simp [hok]
    refine awLoop_T (fun m T M' => ∃ v : Nat, v + m = 5 ∧ 1 ≤ v ∧ Keeps M M' ∧ needF l 4 1 = needF l m v ∧ look T 4 = some (iv v) ∧ look T 0 = some (.slice A n c)) 4 ⟨1, by omega, by omega, Keeps.refl _, rfl, by simp, by simp⟩ ?_
    rintro m T M' ⟨v, hm, hv1, hK, hnd, h4, h0⟩
    have hKl := hK.len
    rcases m with _ | m
    · have hlt : ¬ ((v : Int) ≤ 4) := by omega
      have hlt' : ¬ (v ≤ 4) := by omega
      simp (disch := omega) [h4, hlt, hlt']
      have e : needV l = (0, 3) := by unfold needV; rw [hok, hnd]; rfl
      simp [e, hK]
    · have hlt : (v : Int) ≤ 4 := by omega
      have hlt' : v ≤ 4 := by omega
      simp (disch := omega) [h4, h0, hlt, hlt']
      refine awCall_ctr ((allocate_a v (h.keeps hK) hok (by omega) (by omega)).weaken hKl) ?_
      rintro r M2 ⟨v0, rfl, hf⟩
      have hK2 := hK.trans hf.ow.2
      by_cases hz : (allocP v l).2 = 0
      · have e : needV l = ((v : Int), 0) := by unfold needV; rw [hok, hnd, needF, if_pos hz]; rfl
        simp (disch := omega) [hz, h4]
        simp [e, hK2]
      · simp (disch := omega) [hz, h4, wrap_in]
        refine lpI m (by omega) ?_
        exact ⟨v + 1, by omega, by omega, hK2, by rw [hnd, needF, if_neg hz], by simp, by simp [h0]⟩
  · simp at hok
    simp [hok, needV, Keeps.refl]
theorem NeededVoices_sl {M : Mem} {v : Value} {lo hi : Nat} {x : List Gate} (hx : RdL gateR lo hi M v x) (ex : x.length ≤ 1048576) : Det Try.prog M.length 36 [v] M (.tuple #[iv (needV x).1, iv (needV x).2]) M := by
  obtain ⟨A, n, c, rfl, hn, hS, _⟩ := hx
  exact NeededVoices_s hS (by have := hS.1; omega)
theorem NeededVoices_il {M : Mem} {v : Value} {lo hi : Nat} {x : List Gate} (hx : RdL gateR lo hi M v x) (ex : x.length ≤ 1048576) : Det Try.prog M.length 35 [v] M (.tuple #[iv (needV x).1, iv (needV x).2]) M := by
  obtain ⟨A, n, c, rfl, hn, hS, _⟩ := hx
  exact NeededVoices_i hS (by have := hS.1; omega)
end Go.Proofs.Ytdcfofaojalilaa
