/- Curves: shifted. No conditions. -/
import Derived.Test.YtaacgipfmmomiaaK6
import Derived.Test.YtaacgipfmmomiaaClCurvePoint
namespace Go.Proofs.Ytaacgipfmmomiaa
open Go.RowKit
set_option linter.unusedVariables false
set_option linter.unusedSimpArgs false
set_option maxRecDepth 100000
attribute [local simp] List.getElem?_cons_zero
attribute [local irreducible] awCond awCall awLoop awDraw ow retQ retC resQ Keeps
theorem pt_build (a b : Int) : Instr.fill (fun x => [(0, 1), (1, 1)][x]?) #[iv 0, iv 0] [(0, iv a), (1, iv b)] = some #[iv a, iv b] := by rfl
def shiftP (x : Int) (p : CurvePoint) : CurvePoint := ⟨p.at_ + x, p.val⟩
def shL (x : Int) (l : List CurvePoint) : List CurvePoint := l.map (shiftP x)
def shV (l : List CurvePoint) (x : Int) : List CurvePoint × Int := if okP l = false then ([], 1) else if inB x (-4000) 4000 = false then ([], 2) else if okP (shL x l) = false then ([], 2) else (shL x l, 0)
theorem shL_el {x : Int} {l : List CurvePoint} {i : Nat} (h : i < l.length) : el (shL x l) i = shiftP x (el l i) := by simp [el, shL, h]
theorem shL_bad {l : List CurvePoint} {x : Int} (hok : okP l = true) (h : x < -4000 ∨ 4000 < x) : okP (shL x l) = false := by
  have hn := okP_len hok
  have hb := pointB_iff.1 (okP_el hok (i := 0) (by omega))
  refine okP_not (i := 0) (by simp [shL]; omega) ?_
  intro ⟨h1, _⟩
  rw [shL_el (by omega)] at h1
  have := pointB_iff.1 h1
  simp only [shiftP] at this
  omega
theorem ShiftCurve_s {M : Mem} {A : Option Addr} {n c : Nat} {l : List CurvePoint} (x : Int) (h : Sl curvePointR M A n l) (hn : n ≤ 1099511627776) : Ctr Try.prog M.length 31 [.agg #[.slice A n c], iv x] M fun r M' => ∃ v0, r = .tuple #[.agg #[v0], iv (shV l x).2] ∧ OwL curvePointR M.length M'.length M' v0 (shV l x).1 ∧ Keeps M M' := by
  have hl := h.1
  first | (refine ctr_fn Try.func31 rfl Try.ntmps31 Try.results31 rfl rfl (by simp) ?_) | (refine ctr_fnC Try.func31 rfl Try.ntmps31 Try.results31 rfl (by simp) ?_)
  simp
  refine awCall_det' (l25Ok_a (A := A) (n := n) (c := c) (by simp) (h.keeps (keeps_app _)) (by omega)) (by simp) ?_
  by_cases hok : okP l = true
  · have hn24 := okP_len hok
    simp [hok]
    refine awCall_det' (l00In_a _ _ _) (by simp) ?_
    by_cases hin : inB x (-4000) 4000 = true
    · have hb := inB_iff.1 hin
      simp [hin]
      refine awLoop_T (fun m T M' => ∃ (i : Nat) (u : Value) (r1 : Row), i + m = n ∧ Keeps M M' ∧ M'[M.length]? = some (.live ⟨[.slice A n c], true, true, 43, 1⟩) ∧ M'[M.length + 1]? = some (.live ⟨[.slice none 0 0], true, true, 43, 1⟩) ∧ M'[M.length + 2]? = some (.live ⟨[u], true, true, 43, 1⟩) ∧ Acc curvePointR 83 (M.length + 3) M' u (shL x (l.take i)) ∧
        look T 7 = some (iv i) ∧ look T 2 = some (.pointer (some ⟨M.length, 0, none⟩)) ∧ look T 4 = some (.pointer (some ⟨M.length + 1, 0, none⟩)) ∧ look T 6 = some (.pointer (some ⟨M.length + 2, 0, none⟩)) ∧ look T 1 = some (iv x)) n ⟨0, .slice none 0 0, ⟨[], true, true, 0, 0⟩, by omega, keeps_app _, by simp, by simp, by simp, .nil, by simp, by simp, by simp, by simp, by simp⟩ ?_
      rintro m T M' ⟨i, u, r1, hm, hK, hx0, hx1, hx2, hA, h7, h2, h4, h6, h1⟩
      have hKl := hK.len
      have hl2 := (List.getElem?_eq_some_iff.1 hx2).1
      have p0 : cellAt M' M.length 0 = some (.slice A n c) := by simp [cellAt, hx0]
      have p2 : cellAt M' (M.length + 2) 0 = some u := by simp [cellAt, hx2]
      by_cases hlt : i < n
      · obtain ⟨id, off, rfl, he, hc⟩ := h.at_ hlt
        have bi := pointB_iff.1 (okP_el hok (i := i) (by omega))
        obtain ⟨c0, c1⟩ := curvePoint_cells (hc.keeps hK)
        simp (disch := omega) [h7, h2, h4, h6, h1, hlt, p0, wrap_in]
        refine awDraw_D 18 [[],[0],[],[2],[],[3,2,4],[5,3,2,4],[6,5,3,2,4],[],[7,6,5,3,2,4,8],[],[10],[],[11,10,12],[13,11,10,12],[14,13,11,10,12],[9,7,6,5,3,2,4,8,15,14,13,11,10,12],[16,9,7,6,5,3,2,4,8,15,14,13,11,10,12],[1,0,17,16,9,7,6,5,3,2,4,8,15,14,13,11,10,12],[0,1,2,3,4,5,6,7,8,9,10,11,12,13,14,15,16,17,18],[19,0,1,2,3,4,5,6,7,8,9,10,11,12,13,14,15,16,17,18]] (by kernel_rfl) (by decide +kernel) ?_
        simp (disch := omega) [h7, h2, h4, h6, h1, p0, p2, wrap_in, rowEsz_keeps hK he, c0, c1]
        refine ⟨by omega, ?_⟩
        simp (disch := omega) [pt_build]
        have hlt3 : (shL x (l.take i)).length = i := by simp [shL]; omega
        refine Acc.append (R := curvePointR) (e := 83) (by_ := 16) (a := shiftP x (el l i)) (hA.keeps (keeps_app _)) (by omega) (by simp; omega) (by omega) (by simp) (by kernel_rfl) (by simp [srcOf, curvePointR, CurvePoint.row, shiftP]) (by rfl) (by omega) (by unfold maxLen; omega) ?_
        intro v' M2 hA2 hS
        have g0 := hS.2 M.length _ (by omega) (by rw [List.getElem?_append_left (List.getElem?_eq_some_iff.1 hx0).1]; exact hx0)
        have g1 := hS.2 (M.length + 1) _ (by omega) (by rw [List.getElem?_append_left (List.getElem?_eq_some_iff.1 hx1).1]; exact hx1)
        have g2 := hS.2 (M.length + 2) _ (by omega) (by rw [List.getElem?_append_left hl2]; exact hx2)
        have hK2 := hS.keeps (hK.app _) (by omega)
        obtain ⟨A', n', c', rfl, hln, hsl, h1v⟩ := hA2.sl
        have hp := put_whole (b := M.length) (vs := [.slice A' n' c']) g2 (by omega) rfl rfl
        have g2l := (List.getElem?_eq_some_iff.1 g2).1
        simp (disch := omega) [h6, h7, hp, wrap_in]
        refine lpI (m - 1) (by omega) ?_
        refine ⟨i + 1, .slice A' n' c', ⟨[], true, true, 0, 0⟩, by omega, keeps_set hK2 (by omega), ?_, ?_, ?_, ?_, by simp, by simp [h2], by simp [h4], by simp [h6], by simp [h1]⟩
        · rw [List.getElem?_set_ne (by omega)]; exact g0
        · rw [List.getElem?_set_ne (by omega)]; exact g1
        · rw [List.getElem?_set_self g2l]
        · rw [take_el (by omega)]
          simpa [shL] using hA2.set_ne (by omega)
      · obtain rfl : i = n := by omega
        rw [List.take_of_length_le (by omega)] at hA
        obtain ⟨A', n', c', rfl, hln, hsl, h1v⟩ := hA.sl
        have hlen : n' ≤ 24 := by simp [shL] at hln; omega
        simp (disch := omega) [h7, h2, h4, h6, h1, p0, wrap_in]
        refine awCall_det' (l25Ok_a (A := A') (n := n') (c := c') p2 hsl (by omega)) (by omega) ?_
        have p1 : cellAt M' (M.length + 1) 0 = some (.slice none 0 0) := by simp [cellAt, hx1]
        by_cases hok2 : okP (shL x l) = true
        · have hp := put_whole (b := M.length) (vs := [.slice A' n' c']) hx1 (by omega) rfl rfl
          have l1 := (List.getElem?_eq_some_iff.1 hx1).1
          have q1 : cellsAt M' (M.length + 2) 0 1 = some [.slice A' n' c'] := by simp [cellsAt, hx2]
          have q2 : cellsAt (M'.set (M.length + 1) (.live ⟨[.slice A' n' c'], true, true, 43, 1⟩)) (M.length + 1) 0 1 = some [.slice A' n' c'] := by simp [cellsAt, l1]
          simp (disch := omega) [hok2, h4, h6, q1, hp, q2]
          have hf := ((hA.set_ne (i := M.length + 1) (s := .live ⟨[.slice A' n' c'], true, true, 43, 1⟩) (by omega)).low (B' := M.length) (by omega)).fresh (by omega) (keeps_set hK (by omega))
          exact ⟨_, ⟨rfl, by simp [shV, hok, hin, hok2]⟩, by simpa [shV, hok, hin, hok2] using hf.ow.1, hf.ow.2⟩
        · simp at hok2
          have hp := put_whole (b := M.length) (vs := [.slice none 0 0]) hx1 (by omega) rfl rfl
          have l1 := (List.getElem?_eq_some_iff.1 hx1).1
          have q2 : cellsAt (M'.set (M.length + 1) (.live ⟨[.slice none 0 0], true, true, 43, 1⟩)) (M.length + 1) 0 1 = some [.slice none 0 0] := by simp [cellsAt, l1]
          simp (disch := omega) [hok2, h4, h6, hp, q2]
          exact ⟨_, ⟨rfl, by simp [shV, hok, hin, hok2]⟩, by simpa [shV, hok, hin, hok2] using OwL.nil, keeps_set hK (by omega)⟩
    · simp at hin
      simp [hin]
      exact ⟨_, ⟨rfl, by simp [shV, hok, hin]⟩, by simpa [shV, hok, hin] using OwL.nil, keeps_app _⟩
  · simp at hok
    simp [hok]
    exact ⟨_, ⟨rfl, by simp [shV, hok]⟩, by simpa [shV, hok] using OwL.nil, keeps_app _⟩
theorem curve_build (A : Option Addr) (n c : Nat) : Instr.fill (fun x => [(0, 1)][x]?) #[.slice none 0 0] [(0, .slice A n c)] = some #[.slice A n c] := by rfl
/-- k of them shifted. -/
def mixL (x : Int) (l : List CurvePoint) (k : Nat) : List CurvePoint := shL x (l.take k) ++ l.drop k
theorem mixL_len {x : Int} {l : List CurvePoint} {k : Nat} : (mixL x l k).length = l.length := by simp [mixL, shL]; omega
theorem mixL_zero {x : Int} {l : List CurvePoint} : mixL x l 0 = l := by simp [mixL, shL]
theorem mixL_all {x : Int} {l : List CurvePoint} : mixL x l l.length = shL x l := by simp [mixL, shL]
theorem mixL_el {x : Int} {l : List CurvePoint} {k : Nat} (h : k < l.length) : el (mixL x l k) k = el l k := by
  have e : (shL x (l.take k)).length = k := by simp [shL]; omega
  unfold mixL
  rw [el_append_right (by omega), e, Nat.sub_self, drop_el h]
  rfl
theorem mixL_set {x : Int} {l : List CurvePoint} {k : Nat} (h : k < l.length) : (cellsL curvePointR (mixL x l k)).set (k * 2) (iv ((el l k).at_ + x)) = cellsL curvePointR (mixL x l (k + 1)) := by
  have e : (cellsL curvePointR (shL x (l.take k))).length = k * 2 := by rw [cellsL_len]; simp [shL]; omega
  unfold mixL
  rw [drop_el h, cellsL_append, cellsL_cons, List.set_append_right _ _ (by omega), e, Nat.sub_self, take_el h]
  simp [shL, cellsL_append, cellsL_cons, cellsL_nil, curvePointR, CurvePoint.row, shiftP]
theorem ShiftCurve_i {M : Mem} {A : Option Addr} {n c : Nat} {l : List CurvePoint} (x : Int) (h : Sl curvePointR M A n l) (hn : n ≤ 1048576) (hw : -9223372036854775808 ≤ x ∧ x ≤ 9223372036854775807) : Ctr Try.prog M.length 32 [.agg #[.slice A n c], iv x] M fun r M' => ∃ v0, r = .tuple #[.agg #[v0], iv (shV l x).2] ∧ OwL curvePointR M.length M'.length M' v0 (shV l x).1 ∧ Keeps M M' := by
  have hl := h.1
  first | (refine ctr_fn Try.func32 rfl Try.ntmps32 Try.results32 rfl rfl (by simp) ?_) | (refine ctr_fnC Try.func32 rfl Try.ntmps32 Try.results32 rfl (by simp) ?_)
  simp
  refine awCall_det' (isCurve_a (h.keeps (keeps_app _)) (by omega)) (by simp) ?_
  by_cases hok : okP l = true
  · have hn24 := okP_len hok
    simp [hok]
    refine awCall_ctr ((CloneCurvePoint_a (h.keeps (keeps_app _)) (by omega)).weaken (by simp)) ?_
    rintro u M1 ⟨hA, hK1⟩
    have hKl1 := hK1.len
    simp only [List.length_append, List.length_cons, List.length_nil] at hKl1
    obtain ⟨A', n', c', rfl, hln, hA⟩ := hA
    rcases hA with ⟨-, h0, -⟩ | ⟨id, t, rfl, hid, hr⟩
    · omega
    obtain rfl : n' = n := by omega
    have hidl := (List.getElem?_eq_some_iff.1 hr).1
    simp only [List.length_append, List.length_cons, List.length_nil] at hid
    have hidm := hid
    simp (disch := omega) [curve_build]
    obtain ⟨M2, hM2⟩ : ∃ M2 : Mem, M2 = M1 ++ [.live ⟨[.slice (some ⟨id, 0, none⟩) n' c'], true, true, 43, 1⟩] := ⟨_, rfl⟩
    rw [← hM2]
    have hl2 : M2.length = M1.length + 1 := by rw [hM2]; simp
    have hid2 : id < M2.length := by omega
    have hr2 : M2[id]? = some (.live ⟨cellsL curvePointR l, true, t, 83, 2⟩) := by rw [hM2, List.getElem?_append_left hidl]; exact hr
    have hb2 : M2[M1.length]? = some (.live ⟨[.slice (some ⟨id, 0, none⟩) n' c'], true, true, 43, 1⟩) := by rw [hM2]; simp
    have hb1 : M2[M.length + 1]? = some (.live ⟨[.slice none 0 0], true, true, 43, 1⟩) := by rw [hM2, List.getElem?_append_left (by omega)]; exact hK1.get (by simp)
    have hK2 : Keeps M M2 := by rw [hM2]; exact ((keeps_app _).trans hK1).app _
    have hSl : ∀ (L : List CurvePoint), L.length = n' → Sl curvePointR (M2.set id (.live ⟨cellsL curvePointR L, true, t, 83, 2⟩)) (some ⟨id, 0, none⟩) n' L := by
      intro L hL
      have := Sl.set (R := curvePointR) (M := M2) (id := id) (off := 0) (n := n') (pre := []) (post := []) (l := L) (o := true) (t := t) (e := 83) hid2 rfl hL
      simpa using this
    have hbx : ∀ X, cellAt (M2.set id X) M1.length 0 = some (.slice (some ⟨id, 0, none⟩) n' c') := by
      intro X
      unfold cellAt
      rw [List.getElem?_set_ne (by omega), hb2]
      rfl
    clear hM2
    obtain ⟨y, hy⟩ : ∃ y : Int, y = (if (if x < 8000 then x else 8000) > -8000 then (if x < 8000 then x else 8000) else -8000) := ⟨_, rfl⟩
    have hyb : -8000 ≤ y ∧ y ≤ 8000 := by rw [hy]; split <;> split <;> omega
    have hyx : -4000 ≤ x → x ≤ 4000 → y = x := by intro a b; rw [hy]; rw [if_pos (by omega), if_pos (by omega)]
    have hyx2 : x < -4000 ∨ 4000 < x → y < -4000 ∨ 4000 < y := by intro a; rw [hy]; split <;> split <;> omega
    refine awLoop_T (fun m T M' => ∃ k : Nat, k + m = n' ∧ M' = M2.set id (.live ⟨cellsL curvePointR (mixL y l k), true, t, 83, 2⟩) ∧ look T 19 = some (iv k) ∧ look T 18 = some (iv n') ∧ look T 6 = some (.pointer (some ⟨M1.length, 0, none⟩)) ∧ look T 4 = some (.pointer (some ⟨M.length + 1, 0, none⟩)) ∧ look T 1 = some (iv x)) n' ⟨0, by omega, by rw [mixL_zero, set_self hr2], by simp, by simp, by simp, by simp, by simp⟩ ?_
    rintro m T M' ⟨k, hm, rfl, h19, h18, h6, h4, h1⟩
    by_cases hlt : k < n'
    · have bk := pointB_iff.1 (okP_el hok (i := k) (by omega))
      obtain ⟨_, _, e0, he0, hc0⟩ := (hSl (mixL y l k) (by rw [mixL_len]; omega)).at_ hlt
      cases e0
      rw [mixL_el (by omega)] at hc0
      obtain ⟨c0, c1⟩ := curvePoint_cells hc0
      simp only [Nat.zero_add] at c0
      have hput := put_set (b := M.length) (M := M2) (id := id) (p := k * 2) (v := iv ((el l k).at_ + y)) (cs := cellsL curvePointR (mixL y l k)) (t := t) (e := 83) (z := 2) hid2 (by omega) (by rw [cellsL_len, mixL_len]; omega) rfl
      rw [mixL_set (by omega)] at hput
      have hy' : (if -8000 < (if x < 8000 then x else 8000) then (if x < 8000 then x else 8000) else -8000) = y := hy.symm
      simp (disch := omega) [h19, h18, h6, h1, hlt, hbx, he0, c0, wrap_in, hy', hput]
      refine lpI (m - 1) (by omega) ?_
      exact ⟨k + 1, by omega, rfl, by simp, by simp [h18], by simp [h6], by simp [h4], by simp [h1]⟩
    · obtain rfl : k = n' := by omega
      have ek : mixL y l k = shL y l := by rw [← hln]; exact mixL_all
      rw [ek]
      have hq1 : cellsAt (M2.set id (.live ⟨cellsL curvePointR (shL y l), true, t, 83, 2⟩)) M1.length 0 1 = some [.slice (some ⟨id, 0, none⟩) k c'] := by
        unfold cellsAt
        rw [List.getElem?_set_ne (by omega), hb2]
        rfl
      have hrs : ((M2.set id (.live ⟨cellsL curvePointR (shL y l), true, t, 83, 2⟩))[M.length + 1]? : Option Slot) = some (.live ⟨[.slice none 0 0], true, true, 43, 1⟩) := by rw [List.getElem?_set_ne (by omega)]; exact hb1
      have hk3 : Keeps M (M2.set id (.live ⟨cellsL curvePointR (shL y l), true, t, 83, 2⟩)) := keeps_set hK2 (by omega)
      have hls : (shL y l).length = k := by simp [shL]; omega
      have hacc : Acc curvePointR 83 (M.length + 2) (M2.set id (.live ⟨cellsL curvePointR (shL y l), true, t, 83, 2⟩)) (.slice (some ⟨id, 0, none⟩) k c') (shL y l) := ⟨_, _, _, rfl, hls, .inr ⟨id, t, rfl, by omega, List.getElem?_set_self hid2⟩⟩
      have hsl := hSl (shL y l) hls
      obtain ⟨M3, hM3⟩ : ∃ M3 : Mem, M3 = M2.set id (.live ⟨cellsL curvePointR (shL y l), true, t, 83, 2⟩) := ⟨_, rfl⟩
      have hl3 : M3.length = M2.length := by rw [hM3]; simp
      rw [← hM3] at hq1 hrs hk3 hacc hsl ⊢
      clear hM3
      simp (disch := omega) [h19, h18, h6, hq1]
      refine awCall_det' (isCurve_a hsl (by omega)) (by omega) ?_
      have l1 := (List.getElem?_eq_some_iff.1 hrs).1
      by_cases hok2 : okP (shL y l) = true
      · have hin : inB x (-4000) 4000 = true := by
          by_cases hin : inB x (-4000) 4000 = true
          · exact hin
          · have : x < -4000 ∨ 4000 < x := by rw [inB_iff] at hin; omega
            rw [shL_bad hok (hyx2 this)] at hok2
            cases hok2
        have hb := inB_iff.1 hin
        obtain rfl : y = x := hyx hb.1 hb.2
        have hp := put_whole (b := M.length) (vs := [.slice (some ⟨id, 0, none⟩) k c']) hrs (by omega) rfl rfl
        have q2 : cellsAt (M3.set (M.length + 1) (.live ⟨[.slice (some ⟨id, 0, none⟩) k c'], true, true, 43, 1⟩)) (M.length + 1) 0 1 = some [.slice (some ⟨id, 0, none⟩) k c'] := by simp [cellsAt, l1]
        simp (disch := omega) [hok2, h4, h6, hq1, hp, q2]
        have hf := ((hacc.set_ne (i := M.length + 1) (s := .live ⟨[.slice (some ⟨id, 0, none⟩) k c'], true, true, 43, 1⟩) (by omega)).low (B' := M.length) (by omega)).fresh (by omega) (keeps_set hk3 (by omega))
        exact ⟨_, ⟨rfl, by simp [shV, hok, hin, hok2]⟩, by simpa [shV, hok, hin, hok2] using hf.ow.1, hf.ow.2⟩
      · simp at hok2
        have hp := put_whole (b := M.length) (vs := [.slice none 0 0]) hrs (by omega) rfl rfl
        have q2 : cellsAt (M3.set (M.length + 1) (.live ⟨[.slice none 0 0], true, true, 43, 1⟩)) (M.length + 1) 0 1 = some [.slice none 0 0] := by simp [cellsAt, l1]
        simp (disch := omega) [hok2, h4, h6, hp, q2]
        have e2 : shV l x = ([], 2) := by
          unfold shV
          simp only [hok]
          by_cases hin : inB x (-4000) 4000 = true
          · have hb := inB_iff.1 hin
            have := hyx hb.1 hb.2
            subst this
            simp [hin, hok2]
          · simp at hin
            simp [hin]
        exact ⟨_, ⟨rfl, by simp [e2]⟩, by simpa [e2] using OwL.nil, keeps_set hk3 (by omega)⟩
  · simp at hok
    simp [hok]
    exact ⟨_, ⟨rfl, by simp [shV, hok]⟩, by simpa [shV, hok] using OwL.nil, keeps_app _⟩
theorem ShiftCurve_sl {M : Mem} {v : Value} {lo hi : Nat} {l : List CurvePoint} (h : RdL curvePointR lo hi M v l) (x : Int) (hl : l.length ≤ 1048576) (_ : (Lit.int .i64 x).wf = true) : Ctr Try.prog M.length 31 [.agg #[v], iv x] M fun r M' => ∃ v0, r = .tuple #[.agg #[v0], iv (shV l x).2] ∧ OwL curvePointR M.length M'.length M' v0 (shV l x).1 ∧ Keeps M M' := by
  obtain ⟨A, n, c, rfl, hn, hS, _⟩ := h
  exact ShiftCurve_s x hS (by have := hS.1; omega)
theorem ShiftCurve_il {M : Mem} {v : Value} {lo hi : Nat} {l : List CurvePoint} (h : RdL curvePointR lo hi M v l) (x : Int) (hl : l.length ≤ 1048576) (hx : (Lit.int .i64 x).wf = true) : Ctr Try.prog M.length 32 [.agg #[v], iv x] M fun r M' => ∃ v0, r = .tuple #[.agg #[v0], iv (shV l x).2] ∧ OwL curvePointR M.length M'.length M' v0 (shV l x).1 ∧ Keeps M M' := by
  obtain ⟨A, n, c, rfl, hn, hS, _⟩ := h
  exact ShiftCurve_i x hS (by have := hS.1; omega) (by simp [Lit.wf, IntKind.min, IntKind.max, IntKind.bits, IntKind.signed] at hx; omega)
end Go.Proofs.Ytaacgipfmmomiaa
