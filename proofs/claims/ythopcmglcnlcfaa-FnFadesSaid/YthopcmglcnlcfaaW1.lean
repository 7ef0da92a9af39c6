/- Windows: contracts, and windows that are drawn. No conditions. -/
import Derived.Test.YthopcmglcnlcfaaS3
import Derived.Test.YthopcmglcnlcfaaG0
import Derived.Test.YthopcmglcnlcfaaLB
import Derived.Test.YthopcmglcnlcfaaBr
import Derived.Test.YthopcmglcnlcfaaW0
namespace Go.Proofs.Ythopcmglcnlcfaa
open Go.RowKit
set_option linter.unusedVariables false
set_option linter.unusedSimpArgs false
set_option maxRecDepth 100000
attribute [local simp] List.getElem?_cons_zero
attribute [local irreducible] awCond awCall awLoop awDraw ow retQ retC resQ Keeps
theorem lin_i {M : Mem} {n : Nat} (h1 : 1 ≤ n) (h2 : n ≤ 256) : Ctr Try.prog M.length 10 [iv n] M fun r M' => ∃ v0, r = .tuple #[v0, iv 0] ∧ Fresh intR M v0 M' (Old.lineL Old.linV n n) := by
  obtain ⟨e1, e2⟩ := lineR_nat Old.linV h1 h2
  rw [← e1, ← e2]
  refine ctr_res ⟨_, Try.func10, by kernel_rfl, by kernel_rfl⟩ (by rw [e1, Old.lineL_len]; omega) fun μ w cs hl hS => ?_
  obtain ⟨y, ys, rfl, hv, hl⟩ := lrel_cons hl
  obtain rfl := lrel_nil hl
  obtain rfl := vrel_int hv
  exact Old.lin_impl n w
theorem smo_i {M : Mem} {n : Nat} (h1 : 1 ≤ n) (h2 : n ≤ 256) : Ctr Try.prog M.length 11 [iv n] M fun r M' => ∃ v0, r = .tuple #[v0, iv 0] ∧ Fresh intR M v0 M' (Old.lineL Old.smoV n n) := by
  obtain ⟨e1, e2⟩ := lineR_nat Old.smoV h1 h2
  rw [← e1, ← e2]
  refine ctr_res ⟨_, Try.func11, by kernel_rfl, by kernel_rfl⟩ (by rw [e1, Old.lineL_len]; omega) fun μ w cs hl hS => ?_
  obtain ⟨y, ys, rfl, hv, hl⟩ := lrel_cons hl
  obtain rfl := lrel_nil hl
  obtain rfl := vrel_int hv
  exact Old.smo_impl n w
theorem lin_s {M : Mem} {n : Nat} (h1 : 1 ≤ n) (h2 : n ≤ 256) : Ctr Try.prog M.length 101 [iv n] M fun r M' => ∃ v0, r = .tuple #[v0, iv 0] ∧ Fresh intR M v0 M' (Old.lineL Old.linV n n) := by
  obtain ⟨e1, e2⟩ := lineR_nat Old.linV h1 h2
  rw [← e1, ← e2]
  refine ctr_res ⟨_, Try.func101, by kernel_rfl, by kernel_rfl⟩ (by rw [e1, Old.lineL_len]; omega) fun μ w cs hl hS => ?_
  obtain ⟨y, ys, rfl, hv, hl⟩ := lrel_cons hl
  obtain rfl := lrel_nil hl
  obtain rfl := vrel_int hv
  exact Old.lin_spec n w
theorem smo_s {M : Mem} {n : Nat} (h1 : 1 ≤ n) (h2 : n ≤ 256) : Ctr Try.prog M.length 102 [iv n] M fun r M' => ∃ v0, r = .tuple #[v0, iv 0] ∧ Fresh intR M v0 M' (Old.lineL Old.smoV n n) := by
  obtain ⟨e1, e2⟩ := lineR_nat Old.smoV h1 h2
  rw [← e1, ← e2]
  refine ctr_res ⟨_, Try.func102, by kernel_rfl, by kernel_rfl⟩ (by rw [e1, Old.lineL_len]; omega) fun μ w cs hl hS => ?_
  obtain ⟨y, ys, rfl, hv, hl⟩ := lrel_cons hl
  obtain rfl := lrel_nil hl
  obtain rfl := vrel_int hv
  exact Old.smo_spec n w
theorem isWindow_a {M : Mem} {A : Option Addr} {n c : Nat} {l : List Int} (h : Sl intR M A n l) : Det Try.prog M.length 56 [.slice A n c] M (.bool (Old.winB l)) M := by
  refine det_val0 ⟨_, Try.func56, by kernel_rfl, by kernel_rfl⟩ rfl fun μ w cs hl hS => ?_
  obtain ⟨y, ys, rfl, hv, hl⟩ := lrel_cons hl
  obtain rfl := lrel_nil hl
  obtain ⟨A', c', rfl, hr⟩ := rd_of hS hv h
  exact Old.isWindow_any A' n c' l w hr
theorem l24Ok_a {M : Mem} {A : Option Addr} {n c : Nat} {l : List Int} (h : Sl intR M A n l) : Det Try.prog M.length 55 [.slice A n c] M (.bool (Old.winB l)) M := by
  refine det_val0 ⟨_, Try.func55, by kernel_rfl, by kernel_rfl⟩ rfl fun μ w cs hl hS => ?_
  obtain ⟨y, ys, rfl, hv, hl⟩ := lrel_cons hl
  obtain rfl := lrel_nil hl
  obtain ⟨A', c', rfl, hr⟩ := rd_of hS hv h
  exact Old.l24Ok_any A' n c' l w hr
theorem ValidWindow_i {M : Mem} {A : Option Addr} {n c : Nat} {l : List Int} (h : Sl intR M A n l) : Det Try.prog M.length 13 [.slice A n c] M (.bool (Old.winB l)) M := by
  first | (refine det_fn Try.func13 rfl Try.ntmps13 Try.results13 rfl rfl rfl (by simp) ?_) | (refine det_fnC Try.func13 rfl Try.ntmps13 Try.results13 rfl rfl (by simp) ?_)
  simp
  refine awCall_det' (isWindow_a h) (by simp) ?_
  simp [Keeps.refl]
theorem ValidWindow_s {M : Mem} {A : Option Addr} {n c : Nat} {l : List Int} (h : Sl intR M A n l) : Det Try.prog M.length 12 [.slice A n c] M (.bool (Old.winB l)) M := by
  first | (refine det_fn Try.func12 rfl Try.ntmps12 Try.results12 rfl rfl rfl (by simp) ?_) | (refine det_fnC Try.func12 rfl Try.ntmps12 Try.results12 rfl rfl (by simp) ?_)
  simp
  refine awCall_det' (l24Ok_a h) (by simp) ?_
  simp [Keeps.refl]
theorem Reverse_i {M : Mem} {A : Option Addr} {n c : Nat} {l : List Int} (h : Sl intR M A n l) (hw : Old.winB l = true) : Ctr Try.prog M.length 15 [.slice A n c] M fun r M' => Fresh intR M r M' l.reverse := by
  have hl := Old.winB_len hw
  have e : (if Old.winB l then l.reverse else []) = l.reverse := by rw [hw]; rfl
  rw [← e]
  refine ctr_ret ⟨_, Try.func15, by kernel_rfl, by kernel_rfl⟩ (by rw [e, List.length_reverse]; omega) fun μ w cs hl hS => ?_
  obtain ⟨y, ys, rfl, hv, hl⟩ := lrel_cons hl
  obtain rfl := lrel_nil hl
  obtain ⟨A', c', rfl, hr⟩ := rd_of hS hv h
  exact Old.ReverseWindow_impl A' n c' l w hr
theorem Complement_i {M : Mem} {A : Option Addr} {n c : Nat} {l : List Int} (h : Sl intR M A n l) (hw : Old.winB l = true) : Ctr Try.prog M.length 16 [.slice A n c] M fun r M' => Fresh intR M r M' (Old.compL l) := by
  have hl := Old.winB_len hw
  have e : (if Old.winB l then Old.compL l else []) = Old.compL l := by rw [hw]; rfl
  rw [← e]
  refine ctr_ret ⟨_, Try.func16, by kernel_rfl, by kernel_rfl⟩ (by rw [e, comp_len]; omega) fun μ w cs hl hS => ?_
  obtain ⟨y, ys, rfl, hv, hl⟩ := lrel_cons hl
  obtain rfl := lrel_nil hl
  obtain ⟨A', c', rfl, hr⟩ := rd_of hS hv h
  exact Old.ComplementWindow_impl A' n c' l w hr
theorem sl_int {M : Mem} {A : Option Addr} {n i : Nat} {l : List Int} (h : Sl intR M A n l) (hi : i < n) : ∃ id off, A = some ⟨id, off, none⟩ ∧ rowEsz M id = some 1 ∧ cellAt M id (off + i) = some (iv (el l i)) := by
  obtain ⟨id, off, e, he, hc⟩ := h.at_ hi
  have c0 : cellAt M id (off + i * 1) = some (iv (el l i)) := hc 0 _ rfl
  rw [Nat.mul_one] at c0
  exact ⟨id, off, e, he, c0⟩
theorem v8Same_a {M : Mem} {A B : Option Addr} {n c m d : Nat} {l : List Int} (h : Sl intR M A n l) (h2 : Sl intR M B m l) (hb : n ≤ 1099511627776) : Det Try.prog M.length 17 [.slice A n c, .slice B m d] M (.bool true) M := by
  have e1 := h.1
  have e2 := h2.1
  obtain rfl : m = n := by omega
  first | (refine det_fn Try.func17 rfl Try.ntmps17 Try.results17 rfl rfl rfl (by simp) ?_) | (refine det_fnC Try.func17 rfl Try.ntmps17 Try.results17 rfl rfl (by simp) ?_)
  simp
  refine awLoop_T (fun k T M' => ∃ i : Nat, i + k = m ∧ M' = M ∧ look T 5 = some (iv i) ∧ look T 0 = some (.slice A m c) ∧ look T 1 = some (.slice B m d)) m ⟨0, by omega, rfl, by simp, by simp, by simp⟩ ?_
  rintro k T M' ⟨i, hi, rfl, h5, h0, h1⟩
  by_cases him : i < m
  · obtain ⟨id1, o1, rfl, f1, c1⟩ := sl_int h him
    obtain ⟨id2, o2, rfl, f2, c2⟩ := sl_int h2 him
    simp (disch := omega) [h5, h0, h1, him, f1, f2, c1, c2, wrap_in]
    refine awDraw_E 8 [[],[],[0,1],[2,0,1],[],[],[4,5],[6,4,5],[3,2,0,1,7,6,4,5]] (by kernel_rfl) (by kernel_rfl) ?_
    simp (disch := omega) [h5, h0, h1, him, f1, f2, c1, c2, wrap_in]
    exact lpI (k - 1) (by omega) ⟨i + 1, by omega, rfl, by simp, by simp [h0], by simp [h1]⟩
  · simp (disch := omega) [h5, h0, h1, him, Keeps.refl]
/-- Drawn windows. -/
theorem fill4 (a b c d : Int) : Instr.fill (fun i => some (i, 1)) (zrow [iv 0] 4).toArray [(0, iv a), (1, iv b), (2, iv c), (3, iv d)] = some #[iv a, iv b, iv c, iv d] := by rfl
theorem fill1 {z : Value} {kd : IntKind} {n : Int} : Instr.fill (fun i => some (i, 1)) (zrow [z] 1).toArray [(0, .int kd n)] = some #[.int kd n] := by
  have := fill_int (z := z) (kd := kd) (n := n)
  simpa using this
theorem l24Draw_a {M : Mem} {b g k B n : Nat} (h : Src g B M k) (hb : b ≤ g) (hB : B ≤ M.length) (hk : k ≤ 1048576) (h1 : 1 ≤ n) (h2 : n ≤ 256) :
    Ctr Try.prog b 58 [.pointer (some ⟨g, 0, none⟩), iv n] M fun r M' => ∃ A c l, r = .slice A n c ∧ Sl intR M' A n l ∧ Old.winB l = true ∧ Same g M M' := by
  have hg : g < B := by obtain ⟨_, _, _, _, _, h, _⟩ := h; exact h
  first | (refine ctr_fn Try.func58 rfl Try.ntmps58 Try.results58 rfl rfl (by simp) ?_) | (refine ctr_fnC Try.func58 rfl Try.ntmps58 Try.results58 rfl (by simp) ?_)
  simp
  have hS := h.app [.live ⟨[], true, true, 2, 1⟩]
  refine awCall_ctr (hS.pick 3 hb (by omega) (by omega)) ?_
  rintro r M1 ⟨x, k1, rfl, x0, x1, hk1, hS1, u1⟩
  have s1 : Same g M M1 := (Same.app g M _).trans (u1.same (Nat.le_refl _))
  have n1 := s1.1
  have nn := u1.1
  simp at nn
  have end_ : ∀ (M' : Mem) (v : Value) (l : List Int), Fresh intR M1 v M' l → l.length = n → Old.winB l = true → ∃ A, (∃ c, v = .slice A n c) ∧ ∃ l, Sl intR M' A n l ∧ Old.winB l = true ∧ Same g M M' := by
    rintro M' v l ⟨A, q, c, rfl, -, hsl, -, -, hK⟩ hl hw
    obtain rfl : q = n := by have := hsl.1; omega
    exact ⟨A, ⟨c, rfl⟩, l, hsl, hw, s1.trans ⟨hK.len, fun i s _ hs => hK.get hs⟩⟩
  by_cases e0 : x = 0
  · subst e0
    simp
    refine awCall_ctr ((lin_s h1 h2).weaken (by omega)) ?_
    rintro r M2 ⟨v0, rfl, hF⟩
    simp
    exact end_ _ _ _ hF (Old.lineL_len _ _ _) (win_lin h1 h2)
  by_cases e1 : x = 1
  · subst e1
    simp
    refine awCall_ctr ((smo_s h1 h2).weaken (by omega)) ?_
    rintro r M2 ⟨v0, rfl, hF⟩
    simp
    exact end_ _ _ _ hF (Old.lineL_len _ _ _) (win_smo h1 h2)
  simp [e0, e1]
  have hacc : Acc intR 2 M.length M1 (.slice (some ⟨M.length, 0, none⟩) 0 0) [] := u1.acc ⟨_, _, _, rfl, rfl, .inr ⟨M.length, true, rfl, Nat.le_refl _, by rw [getElem?_snoc_eq]; rfl⟩⟩ (by omega)
  refine awLoop_T (fun m T M' => ∃ (l : List Int) (v : Value) (k' : Nat), Acc intR 2 M.length M' v l ∧ l.length + m = n ∧ (∀ i, i < l.length → 0 ≤ el l i ∧ el l i ≤ 256) ∧ Src g B M' k' ∧ k' ≤ k + 2 + 4 * l.length ∧ Same g M M' ∧ look T 6 = some (iv l.length) ∧ look T 5 = some v ∧ look T 0 = some (.pointer (some ⟨g, 0, none⟩)) ∧ look T 1 = some (iv n)) n ⟨[], _, k1, hacc, by simp, fun i hi => by simp at hi, hS1, by simp; omega, s1, by simp, by simp, by simp, by simp⟩ ?_
  rintro m T M2 ⟨l, v, k2, hA, hl, hw, hS2, hk2, s2, h6, h5, h0, h1'⟩
  rcases m with _ | m
  · have e : ¬ (l.length : Int) < n := by omega
    simp [h6, h1', e, h5]
    obtain ⟨A, q, c, rfl, hq, hsl, -⟩ := hA.sl
    obtain rfl : q = n := by omega
    exact ⟨A, ⟨c, rfl⟩, l, hsl, winB_of hw (by omega) (by omega), s2⟩
  · have e : (l.length : Int) < n := by omega
    simp [h6, h1', e, h5, h0]
    refine awCall_ctr (hS2.pick 257 hb (by omega) (by omega)) ?_
    rintro r M3 ⟨y, k3, rfl, y0, y1, hk3, hS3, u3⟩
    simp [h6, h1', e, h5, h0, fill4]
    have s3 : Same g M M3 := s2.trans (u3.same (Nat.le_refl _))
    have n3 := s3.1
    have hsl : Sl intR (M3 ++ [.live ⟨cellsL intR [y, y, 0, 256], true, true, 2, 1⟩]) (some ⟨M3.length, 0, none⟩) 4 [y, y, 0, 256] := Sl.new rfl
    refine awCall_ctr (among_s (c := 4) (hS3.app _) hb (by omega) hsl (fun a e _ => by injection e with e; subst e; show M3.length ≠ g; omega) (by omega) (by omega)) ?_
    rintro r M4 ⟨z, k4, rfl, hz, hk4, hS4, u4⟩
    have hz' : 0 ≤ z ∧ z ≤ 256 := by
      simp at hz
      omega
    have s4 : Same g M M4 := (s3.trans (Same.app _ _ _)).trans (u4.same (Nat.le_refl _))
    have n4 := s4.1
    simp [h6, h1', e, h5, h0, fill1]
    refine Acc.append (R := intR) (e := 2) (by_ := 8) (a := z) ((u4.acc ((u3.acc hA (by omega)).keeps (keeps_app _)) (by omega)).keeps (keeps_app _)) (by omega) (by simp; omega) (by omega) (by simp) (by kernel_rfl) (by simp [srcOf, intR]) (by rfl) (by omega) (by unfold maxLen; omega) ?_
    intro v' M5 hA5 s5
    have hS5 : Src g B M5 k4 := (hS4.app _).same (s5.low (by omega))
    simp (disch := omega) [h6, h1', e, h5, h0, wrap_in]
    refine lpI m (by omega) ⟨l ++ [z], v', k4, hA5, by simp; omega, fun i hi => ?_, hS5, by simp; omega, (s4.trans (Same.app _ _ _)).trans (s5.low (by omega)), by simp, by simp, by simp [h0], by simp [h1']⟩
    rw [List.length_append, List.length_singleton] at hi
    rcases Nat.lt_or_ge i l.length with h | h
    · rw [el_append_left h]; exact hw i h
    · obtain rfl : i = l.length := by omega
      rw [el_append_right (Nat.le_refl _), Nat.sub_self]
      exact hz'
theorem E8Window_a {M : Mem} {A : Option Addr} {n c m : Nat} {cs : List Int} (h : Sl codeR M A n cs) (hn : n ≤ 1048576) (hcs : ∀ x, x ∈ cs → 0 ≤ x ∧ x ≤ 255) (h1 : 1 ≤ m) (h2 : m ≤ 256) :
    Ctr Try.prog M.length 14 [.slice A n c, iv m] M fun r M' => ∃ A c l, r = .slice A m c ∧ Sl intR M' A m l ∧ Old.winB l = true ∧ Keeps M M' := by
  first | (refine ctr_fn Try.func14 rfl Try.ntmps14 Try.results14 rfl rfl (by simp) ?_) | (refine ctr_fnC Try.func14 rfl Try.ntmps14 Try.results14 rfl (by simp) ?_)
  simp
  refine awCall_det' (l00From_a h hn hcs) (by simp) ?_
  refine awCall_ctr (l24Draw_a (src_new h hn hcs) (Nat.le_refl _) (by simp) (by omega) h1 h2) ?_
  rintro r M1 ⟨A, c, l, rfl, hsl, hw, hs⟩
  have hk : Keeps M M1 := by
    unfold Keeps
    exact fun i s hi => hs.2 i s (List.getElem?_eq_some_iff.1 hi).1 (by rw [List.getElem?_append_left (List.getElem?_eq_some_iff.1 hi).1]; exact hi)
  exact ⟨A, ⟨c, rfl⟩, l, hsl, hw, hk⟩
end Go.Proofs.Ythopcmglcnlcfaa
