/- Gates that are drawn. No conditions. -/
import Derived.Test.YtdcfofaojalilaaG13
import Derived.Test.YtdcfofaojalilaaS2
import Derived.Test.YtdcfofaojalilaaLB
namespace Go.Proofs.Ytdcfofaojalilaa
open Go.RowKit
set_option linter.unusedVariables false
set_option linter.unusedSimpArgs false
set_option maxRecDepth 100000
attribute [local simp] List.getElem?_cons_zero
attribute [local irreducible] awCond awCall awLoop awDraw ow retQ retC resQ Keeps
/-- Drawn gates: in order, each of them good. -/
def DrG (l : List Gate) (x : Int) : Prop := (∀ i, i < l.length → gateB (el l i) = true ∧ (el l i).s ≤ x) ∧ (∀ i, 0 < i → i < l.length → (el l (i - 1)).s ≤ (el l i).s)
theorem DrG.later {l : List Gate} {x y : Int} (h : DrG l x) (hxy : x ≤ y) : DrG l y := ⟨fun i hi => ⟨(h.1 i hi).1, Int.le_trans (h.1 i hi).2 hxy⟩, h.2⟩
theorem DrG.snoc {l : List Gate} {g : Gate} (h : DrG l g.s) (hg : gateB g = true) : DrG (l ++ [g]) g.s := by
  have e1 : el (l ++ [g]) l.length = g := by rw [el_append_right (Nat.le_refl _), Nat.sub_self]; rfl
  have e2 : ∀ i, i < l.length → el (l ++ [g]) i = el l i := fun i hi => el_append_left hi
  have hl : (l ++ [g]).length = l.length + 1 := by simp
  have sp : ∀ i, i < l.length + 1 → i < l.length ∨ i = l.length := fun i hi => by omega
  refine ⟨fun i hi => ?_, fun i hi hj => ?_⟩
  · rcases sp i (by omega) with h' | rfl
    · rw [e2 i h']; exact h.1 i h'
    · rw [e1]; exact ⟨hg, Int.le_refl _⟩
  · rw [e2 (i - 1) (by omega)]
    rcases sp i (by omega) with h' | rfl
    · rw [e2 i h']; exact h.2 i hi h'
    · rw [e1]; exact (h.1 _ (by omega)).2
theorem gate_build (a b c d : Int) : Instr.fill (fun x => [(0, 1), (1, 1), (2, 1), (3, 1), (4, 1)][x]?) #[.int .i64 0, .int .i64 0, .int .i64 0, .int .i64 0, .int .i64 0] [(0, .int .i64 a), (1, .int .i64 b), (3, .int .i64 c), (4, .int .i64 d)] = some #[.int .i64 a, .int .i64 b, .int .i64 0, .int .i64 c, .int .i64 d] := by rfl
theorem put_box {b : Nat} {M : Mem} {vs cs : List Value} {t : Bool} {e : TypeId} {z : Nat} (hb : b ≤ M.length) (hl : vs.length = cs.length) (h1 : vs.all oneV = true) :
    putCells b (M ++ [.live ⟨cs, true, t, e, z⟩]) M.length 0 vs = some (M ++ [.live ⟨vs, true, t, e, z⟩]) := by
  rw [put_whole getElem?_snoc_eq hb hl h1]
  simp
theorem Same.app (B : Nat) (M L : Mem) : Same B M (M ++ L) := ⟨by simp, fun i s _ hs => by rw [List.getElem?_append_left (List.getElem?_eq_some_iff.1 hs).1]; exact hs⟩
theorem Acc.box {α : Type} {q : Nat} {R : RecV α q} {e : TypeId} {g B : Nat} {M M' : Mem} {s s' : Slot} {v : Value} {l : List α} (h : Acc R e B M v l) (hg : g < B) (u : UpdS g (M ++ [s]) M') : Acc R e B (M'.set M.length s') v l := by
  obtain ⟨A, n, c, h1, h2, h3⟩ := h
  refine ⟨A, n, c, h1, h2, ?_⟩
  rcases h3 with h3 | ⟨id, t, h4, h5, h6⟩
  · exact .inl h3
  · have hlt := (List.getElem?_eq_some_iff.1 h6).1
    exact .inr ⟨id, t, h4, h5, by rw [List.getElem?_set_ne (by omega)]; exact u.2 _ _ (by omega) (by rw [List.getElem?_append_left hlt]; exact h6)⟩
theorem l21Draw_a {M : Mem} {b g k B : Nat} (h : Src g B M k) (hb : b ≤ g) (hB : B ≤ M.length) (hk : k ≤ 1048576) :
    Ctr Try.prog b 55 [.pointer (some ⟨g, 0, none⟩), iv 14, iv 8] M fun r M' => ∃ l : List Gate, Acc gateR 45 M.length M' r l ∧ l.length ≤ 14 ∧ DrG l 4000 ∧ Same g M M' := by
  first | (refine ctr_fn Try.func55 rfl Try.ntmps55 Try.results55 rfl rfl (by simp) ?_) | (refine ctr_fnC Try.func55 rfl Try.ntmps55 Try.results55 rfl (by simp) ?_)
  simp
  have h1 := h.app [.live ⟨[], true, true, 45, 5⟩]
  refine awCall_ctr (h1.pick 4 hb (by omega) (by omega)) ?_
  rintro r M1 ⟨at0, k1, rfl, a0, a1, hk1, h2, u1⟩
  rw [show IntKind.i64.wrap 15 = 15 by decide]
  refine awCall_ctr (h2.pick 15 hb (by omega) (by omega)) ?_
  rintro r M2 ⟨cnt, k2, rfl, c0, c1, hk2, h3, u2⟩
  obtain ⟨cn, rfl⟩ := Int.eq_ofNat_of_zero_le c0
  have hg : g < B := by obtain ⟨_, _, _, _, _, h, _⟩ := h; exact h
  have hacc : Acc gateR 45 M.length M2 (.slice (some ⟨M.length, 0, none⟩) 0 0) [] := u2.acc (u1.acc ⟨_, _, _, rfl, rfl, .inr ⟨M.length, true, rfl, Nat.le_refl _, by rw [getElem?_snoc_eq]; rfl⟩⟩ (by omega)) (by omega)
  have hs2 : Same g M M2 := (Same.trans ⟨by simp, fun i s _ hs => by rw [List.getElem?_append_left (List.getElem?_eq_some_iff.1 hs).1]; exact hs⟩ (u1.same (Nat.le_refl _))).trans (u2.same (Nat.le_refl _))
  refine awLoop_T (fun m T M' => ∃ (l : List Gate) (v : Value) (x : Int) (k' : Nat), Acc gateR 45 M.length M' v l ∧ l.length + m = cn ∧ DrG l x ∧ 0 ≤ x ∧ x ≤ 4 + 7 * (l.length : Int) ∧ Src g B M' k' ∧ k' ≤ k + 4 + 14 * l.length ∧ Same g M M' ∧ look T 9 = some (iv m) ∧ look T 8 = some (iv x) ∧ look T 7 = some v ∧ look T 0 = some (.pointer (some ⟨g, 0, none⟩)) ∧ look T 2 = some (iv 8)) cn ⟨[], _, at0, k2, hacc, by simp, ⟨fun i hi => by simp at hi, fun i _ hi => by simp at hi⟩, a0, by simp; omega, h3, by simp; omega, hs2, by simp, by simp, by simp, by simp, by simp⟩ ?_
  rintro m T M3 ⟨l, v, x, k', hA, hl, hD, x0, x1, hS, hk', hsm, h9, h8, h7, h0, h2'⟩
  simp [h9]
  rcases m with _ | m
  · simp [h7]
    exact ⟨l, hA, by omega, hD.later (by omega), hsm⟩
  · have e : (0 : Int) < (m : Int) + 1 := by omega
    simp [h9, h8, h7, h0, h2']
    refine awCall_ctr (hS.pick 4 hb (by omega) (by omega)) ?_
    rintro r M4 ⟨vo, k4, rfl, v0, v1, hk4, hS4, u4⟩
    refine awCall_ctr (hS4.pick 24 hb (by omega) (by omega)) ?_
    rintro r M5 ⟨ke, k5, rfl, ke0, ke1, hk5, hS5, u5⟩
    simp (disch := omega) [h9, h8, h7, h0, h2', wrap_in]
    refine awCall_ctr (hS5.pick 127 hb (by omega) (by omega)) ?_
    rintro r M6 ⟨ve, k6, rfl, ve0, ve1, hk6, hS6, u6⟩
    have hBl : B ≤ M6.length := by
      have := hsm.1
      have := u4.1
      have := u5.1
      have := u6.1
      omega
    have hput0 := put_box (b := b) (M := M6) (t := true) (e := 45) (z := 5) (cs := [.int .i64 0, .int .i64 0, .int .i64 0, .int .i64 0, .int .i64 0]) (vs := [iv vo, iv x, iv 0, iv (48 + ke), iv (1 + ve)]) (by omega) rfl rfl
    simp (disch := omega) [h9, h8, h7, h0, h2', wrap_in, gate_build, hput0]
    refine awCall_ctr ((hS6.app _).pick 24 hb (by omega) (by omega)) ?_
    rintro r M7 ⟨le, k7, rfl, le0, le1, hk7, hS7, u7⟩
    have hb7 := u7.2 M6.length _ (by omega) getElem?_snoc_eq
    have hput := put_row (b := b) (p := 2) (v := iv (x + 1 + le)) hb7 (by omega) (by simp) rfl
    simp (disch := omega) [h9, h8, h7, h0, h2', wrap_in, hput]
    have hl7 : M6.length < M7.length := (List.getElem?_eq_some_iff.1 hb7).1
    obtain ⟨M8, hM8⟩ : ∃ M8 : Mem, M8 = M7.set M6.length (.live ⟨[iv vo, iv x, iv (x + 1 + le), iv (48 + ke), iv (1 + ve)], true, true, 45, 5⟩) := ⟨_, rfl⟩
    have c8 : cellsAt M8 M6.length 0 5 = some [iv vo, iv x, iv (x + 1 + le), iv (48 + ke), iv (1 + ve)] := by
      rw [hM8]; simp [cellsAt, hl7]
    have l8 : M8.length = M6.length + 1 := by rw [hM8, List.length_set, u7.1]; simp
    have s8 : Same M6.length M7 M8 := ⟨by rw [l8]; have := u7.1; simp at this; omega, fun i s hi hs => by rw [hM8, List.getElem?_set_ne (by omega)]; exact hs⟩
    have hS8 : Src g B M8 k7 := hS7.same (s8.low (by omega))
    have hA8 : Acc gateR 45 M.length M8 v l := by
      rw [hM8]
      exact (u6.acc (u5.acc (u4.acc hA (by omega)) (by omega)) (by omega)).box (by omega) u7
    have hs8 : Same g M M8 := ((((hsm.trans (u4.same (Nat.le_refl _))).trans (u5.same (Nat.le_refl _))).trans (u6.same (Nat.le_refl _))).trans (Same.app _ _ _)).trans ((u7.same (Nat.le_refl _)).trans (s8.low (by omega)))
    rw [← hM8]
    clear hput hM8
    simp (disch := omega) [h9, h8, h7, h0, h2', wrap_in, c8]
    refine Acc.append (R := gateR) (e := 45) (by_ := 40) (a := ⟨vo, x, x + 1 + le, 48 + ke, 1 + ve⟩) (hA8.keeps (keeps_app _)) (by omega) (by have := hs8.1; simp; omega) (by omega) (by simp) (by kernel_rfl) (by simp [srcOf, gateR, Gate.row]) (by rfl) (by omega) (by unfold maxLen; omega) ?_
    intro v' M9 hA9 s9
    have hS9 : Src g B M9 k7 := (hS8.app _).same (s9.low hB)
    have hs9 : Same g M M9 := (hs8.trans (Same.app _ _ _)).trans (s9.low (by omega))
    refine awCall_ctr (hS9.pick 8 hb (by omega) (by omega)) ?_
    rintro r M10 ⟨dx, k10, rfl, dx0, dx1, hk10, hS10, u10⟩
    simp (disch := omega) [h9, h8, h7, h0, h2', wrap_in]
    refine lpI m (by omega) ?_
    refine ⟨l ++ [⟨vo, x, x + 1 + le, 48 + ke, 1 + ve⟩], v', x + dx, k10, u10.acc hA9 (by omega), by simp; omega, ((hD.later (Int.le_refl _)).snoc (g := ⟨vo, x, x + 1 + le, 48 + ke, 1 + ve⟩) (gateB_iff.2 ⟨by simp only; omega, by simp only; omega⟩)).later (by simp only; omega), by omega, by simp; omega, hS10, by simp; omega, hs9.trans (u10.same (Nat.le_refl _)), by simp, by simp, by simp, by simp [h0], by simp [h2']⟩
theorem E8Gates_a {M : Mem} {A : Option Addr} {n c : Nat} {cs : List Int} (h : Sl codeR M A n cs) (hn : n ≤ 1048576) (hcs : ∀ x, x ∈ cs → 0 ≤ x ∧ x ≤ 255) :
    Ctr Try.prog M.length 32 [.slice A n c] M fun r M' => ∃ l : List Gate, OwL gateR M.length M'.length M' r l ∧ Keeps M M' ∧ l.length ≤ 14 ∧ DrG l 4000 := by
  first | (refine ctr_fn Try.func32 rfl Try.ntmps32 Try.results32 rfl rfl (by simp) ?_) | (refine ctr_fnC Try.func32 rfl Try.ntmps32 Try.results32 rfl (by simp) ?_)
  simp
  refine awCall_det' (l00From_a h hn hcs) (by simp) ?_
  refine awCall_ctr (l21Draw_a (src_new h hn hcs) (Nat.le_refl _) (by simp) (by omega)) ?_
  rintro r M1 ⟨l, hA, hl, hD, hs⟩
  have hk : Keeps M M1 := by
    unfold Keeps
    exact fun i s hi => hs.2 i s (List.getElem?_eq_some_iff.1 hi).1 (by rw [List.getElem?_append_left (List.getElem?_eq_some_iff.1 hi).1]; exact hi)
  exact ⟨l, ((hA.low (by simp)).fresh (by omega) hk).ow.1, hk, hl, hD⟩
end Go.Proofs.Ytdcfofaojalilaa
