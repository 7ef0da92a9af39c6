/- Streams, and binary forms, that are drawn. No conditions. -/
import Derived.Test.YthopcmglcnlcfaaE4
import Derived.Test.YthopcmglcnlcfaaF0
import Derived.Test.YthopcmglcnlcfaaLB
namespace Go.Proofs.Ythopcmglcnlcfaa
open Go.RowKit
set_option linter.unusedVariables false
set_option linter.unusedSimpArgs false
set_option maxRecDepth 100000
attribute [local simp] List.getElem?_cons_zero
attribute [local irreducible] awCond awCall awLoop awDraw ow retQ retC resQ Keeps
theorem fill9 (a b c d e f g h i : Int) : Instr.fill (fun i => some (i, 1)) (zrow [iv 0] 9).toArray [(0, iv a), (1, iv b), (2, iv c), (3, iv d), (4, iv e), (5, iv f), (6, iv g), (7, iv h), (8, iv i)] = some #[iv a, iv b, iv c, iv d, iv e, iv f, iv g, iv h, iv i] :=
  fill_ints (k := .i64) [a, b, c, d, e, f, g, h, i] rfl
theorem among_new {M : Mem} {b g k B : Nat} {cs : List Value} (l : List Int) {n : Nat} (hc : cs = cellsL intR l) (h : Src g B M k) (hb : b ≤ g) (hk : k + 2 ≤ 1099511627776) (h0 : 0 < n) (hn : n ≤ 100) (hl : l.length = n) (hB : B ≤ M.length) :
    Ctr Try.prog b 103 [.pointer (some ⟨g, 0, none⟩), .slice (some ⟨M.length, 0, none⟩) n n] (M ++ [.live ⟨cs, true, true, 2, 1⟩]) fun r M' => ∃ (x : Int) (k' : Nat), r = iv x ∧ x ∈ l ∧ k' ≤ k + 2 ∧ Src g B M' k' ∧ Grow g M M' := by
  subst hc
  have hg := h.lt
  have hsl : Sl intR (M ++ [.live ⟨cellsL intR l, true, true, 2, 1⟩]) (some ⟨M.length, 0, none⟩) n l := Sl.new hl
  refine (among_s (c := n) (h.app _) hb hk hsl (fun a e _ => by injection e with e; subst e; show M.length ≠ g; omega) h0 (by omega)).mono ?_
  rintro r M' ⟨x, k', rfl, hx, hk', hS, u⟩
  exact ⟨x, k', rfl, hx, hk', hS, (Grow.app g M _).trans u.grow⟩
theorem ev_build (a b c : Int) : Instr.fill (fun x => [(0, 1), (1, 1), (2, 1), (3, 1), (4, 1)][x]?) #[.int .i64 0, .int .i64 0, .int .i64 0, .int .i64 0, .int .i64 0] [(1, iv a), (2, iv b), (3, iv c)] = some #[iv 0, iv a, iv b, iv c, iv 0] := by rfl
theorem cell_hr {M : Mem} {id : Nat} {r : Row} (h : M[id]? = some (.live r)) (off : Nat) : cellAt M id off = r.cells[off]? := by simp [cellAt, h]
theorem cells_hr {M : Mem} {id n : Nat} {r : Row} (h : M[id]? = some (.live r)) (hn : n = r.cells.length) : cellsAt M id 0 n = some r.cells := by
  subst hn
  simp [cellsAt, h]
theorem set_get {M : Mem} {id : Nat} {s : Slot} (h : id < M.length) : (M.set id s)[id]? = some s := List.getElem?_set_self h
theorem set_grow {M : Mem} {g id : Nat} {s : Slot} (h : id ≠ g) : True := trivial
theorem Same.set {B id : Nat} {M : Mem} {s : Slot} (h : B ≤ id) : Same B M (M.set id s) := ⟨by simp, fun i t hi ht => by rw [List.getElem?_set_ne (by omega)]; exact ht⟩
set_option maxHeartbeats 2000000 in
theorem l20Draw_a {M : Mem} {b g k B most : Nat} (h : Src g B M k) (hb : b ≤ g) (hB : B ≤ M.length) (hk : k ≤ 1000) (hm : most ≤ 100) :
    Ctr Try.prog b 69 [.pointer (some ⟨g, 0, none⟩), iv most] M fun r M' => ∃ (l : List StreamEvent) (k' : Nat), Acc streamEventR 89 M.length M' r l ∧ l.length ≤ most ∧ (∀ i, i < l.length → eventB (el l i) = true) ∧ Src g B M' k' ∧ k' ≤ 4000 ∧ Same g M M' := by
  have hg := h.lt
  first | (refine ctr_fn Try.func69 rfl Try.ntmps69 Try.results69 rfl rfl (by simp) ?_) | (refine ctr_fnC Try.func69 rfl Try.ntmps69 Try.results69 rfl (by simp) ?_)
  simp (disch := omega) [wrap_in]
  refine awCall_ctr ((h.app _).pick ((most : Int) + 1) hb (by omega) (by omega)) ?_
  rintro r M4 ⟨ct, k4, rfl, ct0, ct1, hk4, h4, u4⟩
  have n4 := u4.1
  simp at n4
  obtain ⟨cn, rfl⟩ := Int.eq_ofNat_of_zero_le ct0
  have s4 : Same g M M4 := (Same.app g M _).trans (u4.same (Nat.le_refl _))
  have hacc : Acc streamEventR 89 M.length M4 (.slice (some ⟨M.length, 0, none⟩) 0 0) [] := u4.acc ⟨_, _, _, rfl, rfl, .inr ⟨M.length, true, rfl, Nat.le_refl _, by rw [getElem?_snoc_eq]; rfl⟩⟩ (by omega)
  refine awLoop_T (fun m T M' => ∃ (l : List StreamEvent) (v : Value) (k' : Nat), Acc streamEventR 89 M.length M' v l ∧ l.length + m = cn ∧ (∀ i, i < l.length → eventB (el l i) = true) ∧ Src g B M' k' ∧ k' ≤ k + 2 + 20 * l.length ∧ Same g M M' ∧ M.length ≤ M'.length ∧ look T 6 = some (iv m) ∧ look T 5 = some v ∧ look T 0 = some (.pointer (some ⟨g, 0, none⟩))) cn
    ⟨[], _, k4, hacc, by simp, fun i hi => by simp at hi, h4, by simp; omega, s4, by omega, by simp, by simp, by simp⟩ ?_
  rintro m T M5 ⟨l, v, k5, hA, hl, hs, h5, hk5, s5, n5, t6, t5, t0⟩
  rcases m with _ | m
  · simp [t6, t5]
    exact ⟨l, hA, by omega, hs, k5, h5, by omega, s5⟩
  · have e : (0 : Int) < (m : Int) + 1 := by omega
    simp [t6, t5, t0]
    refine awCall_ctr (h5.pick 2 hb (by omega) (by omega)) ?_
    rintro r M6 ⟨j, k6, rfl, j0, j1, hk6, h6, u6⟩
    have n6 := u6.1
    have g6 := u6.grow
    try simp (disch := omega) [t6, t5, t0, wrap_in, fill4]
    refine awCall_ctr (among_new [0, 0, 1, 15] rfl h6 hb (by omega) (by omega) (by omega) rfl (by omega)) ?_
    rintro r M7 ⟨o, k7, rfl, ho, hk7, h7, g7⟩
    replace g7 := g6.trans g7
    have n7 := g7.1
    try simp (disch := omega) [t6, t5, t0, wrap_in, fill4]
    refine awCall_ctr (among_new [60, 61, 0, 127] rfl h7 hb (by omega) (by omega) (by omega) rfl (by omega)) ?_
    rintro r M8 ⟨ky, k8, rfl, hky, hk8, h8, g8⟩
    replace g8 := g7.trans g8
    have n8 := g8.1
    have hput0 := put_box (b := b) (M := M8) (t := true) (e := 89) (z := 5) (cs := [iv 0, iv 0, iv 0, iv 0, iv 0]) (vs := [iv 0, iv (1 + j), iv o, iv ky, iv 0]) (by omega) rfl rfl
    simp (disch := omega) [t6, t5, t0, wrap_in, ev_build, hput0, fill9]
    have hc9 := among_new (b := b) (M := M8 ++ [.live ⟨[iv 0, iv (1 + j), iv o, iv ky, iv 0], true, true, 89, 5⟩]) (n := 9) [0, 0, 1, 24, 127, 128, 16383, 16384, 268435455] rfl (h8.app _) hb (by omega) (by omega) (by omega) rfl (by simp; omega)
    rw [List.append_assoc, List.length_append] at hc9
    refine awCall_ctr hc9 ?_
    rintro r M9 ⟨dl, k9, rfl, hdl, hk9, h9, g9⟩
    have r9 : M9[M8.length]? = some (.live ⟨[iv 0, iv (1 + j), iv o, iv ky, iv 0], true, true, 89, 5⟩) := g9.2 _ _ (by omega) getElem?_snoc_eq
    have l9 := (List.getElem?_eq_some_iff.1 r9).1
    have hA9 := g9.acc ((g8.acc hA (by omega)).keeps (keeps_app [.live ⟨[iv 0, iv (1 + j), iv o, iv ky, iv 0], true, true, 89, 5⟩])) (by omega)
    have g9' := g9
    replace g9 := (g8.trans (Grow.app g M8 _)).trans g9
    have n9 := g9.1
    have hput1 := put_row (b := b) (p := 0) (v := iv dl) r9 (by omega) (by simp) rfl
    obtain ⟨M10, hM10⟩ : ∃ M' : Mem, M' = M9.set M8.length (.live ⟨[iv dl, iv (1 + j), iv o, iv ky, iv 0], true, true, 89, 5⟩) := ⟨_, rfl⟩
    have r10 : M10[M8.length]? = some (.live ⟨[iv dl, iv (1 + j), iv o, iv ky, iv 0], true, true, 89, 5⟩) := by rw [hM10]; exact set_get l9
    have s10 : Same M8.length M9 M10 := by rw [hM10]; exact .set (Nat.le_refl _)
    have h10 : Src g B M10 k9 := h9.same (s10.low (by omega))
    have hA10 : Acc streamEventR 89 M.length M10 v l := by
      obtain ⟨A, q, c, e1, e2, e3⟩ := g8.acc hA (by omega)
      refine ⟨A, q, c, e1, e2, ?_⟩
      rcases e3 with e3 | ⟨id, tt, e4, e5, e6⟩
      · exact .inl e3
      · have hlt := (List.getElem?_eq_some_iff.1 e6).1
        refine .inr ⟨id, tt, e4, e5, s10.2 _ _ hlt (g9'.2 _ _ (by omega) ?_)⟩
        rw [List.getElem?_append_left hlt]
        exact e6
    have s10' : Same g M M10 := (s5.trans (g9.same (Nat.le_refl _))).trans (s10.low (by omega))
    have n10 := s10'.1
    have C10 := cell_hr r10
    have hput1' : putCells b M9 M8.length 0 [iv dl] = some M10 := by rw [hput1, hM10]; rfl
    clear hput1
    have g10 : Grow M8.length M9 M10 := by rw [hM10]; exact ⟨by simp, fun i s hi hs => by rw [List.getElem?_set_ne (Ne.symm hi)]; exact hs⟩
    clear hM10
    simp (disch := omega) [t6, t5, t0, wrap_in, hput1', C10]
    have ev1 : 0 ≤ dl ∧ dl ≤ 268435455 := by simp at hdl; omega
    have ev2 : 0 ≤ o ∧ o ≤ 15 := by simp at ho; omega
    have ev3 : 0 ≤ ky ∧ ky ≤ 127 := by simp at hky; omega
    -- what is left: the event is loaded and appended
    have app_ : ∀ (e : StreamEvent) (M11 : Mem) (k11 : Nat) (K : Value → Mem → Prop) (n : Nat) (T : List (Nat × Value)), eventB e = true → Acc streamEventR 89 M.length M11 v l → Src g B M11 k11 → k11 ≤ k5 + 14 → Same g M M11 →
        (∀ v' M12, Acc streamEventR 89 M.length M12 v' (l ++ [e]) → Src g B M12 k11 → Same g M M12 → (∀ i, i < (l ++ [e]).length → eventB (el (l ++ [e]) i) = true) → K v' M12) →
        appendK Try.prog b ⟨n, T, M11 ++ [.live ⟨[iv e.d, iv e.j, iv e.o, iv e.k, iv e.u], true, true, 89, 5⟩]⟩ K 36 36 v (.slice (some ⟨M11.length, 0, none⟩) 1 1) := by
      intro e M11 k11 K n T he hA11 h11 hk11 s11 hK
      have n11 := s11.1
      refine Acc.append (R := streamEventR) (e := 89) (by_ := 40) (a := e) (hA11.keeps (keeps_app _)) (by omega) (by simp; omega) (by omega) (by simp) (by kernel_rfl) (by simp [srcOf, streamEventR, StreamEvent.row]) (by rfl) (by omega) (by unfold maxLen; omega) ?_
      intro v' M12 hA12 s12
      refine hK v' M12 hA12 ((h11.app _).same (s12.low (by omega))) ((s11.trans (Same.app _ _ _)).trans (s12.low (by omega))) fun i hi => ?_
      rw [List.length_append, List.length_singleton] at hi
      rcases Nat.lt_or_ge i l.length with h | h
      · rw [el_append_left h]; exact hs i h
      · obtain rfl : i = l.length := by omega
        rw [el_append_right (Nat.le_refl _), Nat.sub_self]
        exact he
    by_cases j2 : j = 0
    · subst j2
      simp (disch := omega) [t6, t5, t0, wrap_in]
      refine awCall_ctr (h10.pick 127 hb (by omega) (by omega)) ?_
      rintro r M11 ⟨y, k11, rfl, y0, y1, hk11, h11, u11⟩
      have n11 := u11.1
      have r11 := u11.2 _ _ (by omega) r10
      have hput2 := put_row (b := b) (p := 4) (v := iv (1 + y)) r11 (by omega) (by simp) rfl
      have l11 := (List.getElem?_eq_some_iff.1 r11).1
      obtain ⟨M12, hM12⟩ : ∃ M' : Mem, M' = M11.set M8.length (.live ⟨[iv dl, iv 1, iv o, iv ky, iv (1 + y)], true, true, 89, 5⟩) := ⟨_, rfl⟩
      have r12 : M12[M8.length]? = some (.live ⟨[iv dl, iv 1, iv o, iv ky, iv (1 + y)], true, true, 89, 5⟩) := by rw [hM12]; exact set_get l11
      have hput2' : putCells b M11 M8.length 4 [iv (1 + y)] = some M12 := by rw [hput2, hM12]; rfl
      clear hput2
      have g12 : Grow M8.length M11 M12 := by rw [hM12]; exact ⟨by simp, fun i s hi hs => by rw [List.getElem?_set_ne (Ne.symm hi)]; exact hs⟩
      have s12 : Same M8.length M11 M12 := by rw [hM12]; exact .set (Nat.le_refl _)
      clear hM12
      have c12 : cellsAt M12 M8.length 0 5 = some [iv dl, iv 1, iv o, iv ky, iv (1 + y)] := cells_hr r12 rfl
      simp (disch := omega) [t6, t5, t0, wrap_in, hput2', c12]
      refine app_ ⟨dl, 1, o, ky, 1 + y⟩ M12 k11 _ _ _ (eventB_iff.2 ⟨ev1, ev2, ev3, .inl ⟨rfl, by simp only; omega, by simp only; omega⟩⟩) ?_ (h11.same (s12.low (by omega))) (by omega) ((s10'.trans (u11.same (Nat.le_refl _))).trans (s12.low (by omega))) ?_
      · obtain ⟨A, q, c, e1, e2, e3⟩ := g8.acc hA (by omega)
        refine ⟨A, q, c, e1, e2, ?_⟩
        rcases e3 with e3 | ⟨id, tt, e4, e5, e6⟩
        · exact .inl e3
        · have hlt := (List.getElem?_eq_some_iff.1 e6).1
          refine .inr ⟨id, tt, e4, e5, s12.2 _ _ hlt (u11.2 _ _ (by omega) (s10.2 _ _ hlt (g9'.2 _ _ (by omega) ?_)))⟩
          rw [List.getElem?_append_left hlt]
          exact e6
      · intro v' M13 hA13 h13 s13 hs13
        try simp (disch := omega) [t6, t5, t0, wrap_in]
        refine lpI m (by omega) ⟨l ++ [⟨dl, 1, o, ky, 1 + y⟩], v', k11, hA13, by simp; omega, hs13, h13, by simp; omega, s13, s13.1, by simp, by simp, by simp [t0]⟩
    · obtain rfl : j = 1 := by omega
      have c10 : cellsAt M10 M8.length 0 5 = some [iv dl, iv (1 + 1), iv o, iv ky, iv 0] := cells_hr r10 rfl
      simp (disch := omega) [t6, t5, t0, wrap_in, c10]
      refine app_ ⟨dl, 2, o, ky, 0⟩ M10 k9 _ _ _ (eventB_iff.2 ⟨ev1, ev2, ev3, .inr ⟨rfl, rfl⟩⟩) hA10 h10 (by omega) s10' ?_
      intro v' M13 hA13 h13 s13 hs13
      try simp (disch := omega) [t6, t5, t0, wrap_in]
      refine lpI m (by omega) ⟨l ++ [⟨dl, 2, o, ky, 0⟩], v', k9, hA13, by simp; omega, hs13, h13, by simp; omega, s13, s13.1, by simp, by simp, by simp [t0]⟩
theorem E8Stream_a {M : Mem} {A : Option Addr} {n c : Nat} {cs : List Int} (h : Sl codeR M A n cs) (hn : n ≤ 1048576) (hcs : ∀ x, x ∈ cs → 0 ≤ x ∧ x ≤ 255) :
    Ctr Try.prog M.length 25 [.slice A n c] M fun r M' => ∃ A c l, r = .slice A l.length c ∧ Sl streamEventR M' A l.length l ∧ okE l = true ∧ Keeps M M' := by
  first | (refine ctr_fn Try.func25 rfl Try.ntmps25 Try.results25 rfl rfl (by simp) ?_) | (refine ctr_fnC Try.func25 rfl Try.ntmps25 Try.results25 rfl (by simp) ?_)
  simp
  refine awCall_det' (l00From_a h hn hcs) (by simp) ?_
  refine awCall_ctr (l20Draw_a (most := 12) (src_new h hn hcs) (Nat.le_refl _) (by simp) (by omega) (by omega)) ?_
  rintro r M1 ⟨l, k', hA, hl, hs, -, -, hsm⟩
  obtain ⟨A, q, c, rfl, hq, hsl, -⟩ := hA.sl
  subst hq
  have hk : Keeps M M1 := by
    unfold Keeps
    exact fun i s hi => hsm.2 i s (List.getElem?_eq_some_iff.1 hi).1 (by rw [List.getElem?_append_left (List.getElem?_eq_some_iff.1 hi).1]; exact hi)
  refine ⟨A, c, l, rfl, hsl, ?_, hk⟩
  unfold okE
  rw [decide_eq_true (show l.length ≤ 200 by omega), Bool.and_eq_true, List.all_eq_true]
  refine ⟨rfl, fun x hx => ?_⟩
  obtain ⟨i, hi, rfl⟩ := List.getElem_of_mem hx
  rw [el_eq hi]
  exact hs i hi
/-- Bytes in a row, as a string. -/
theorem row_str {P : Program} {S : St} {src dst e e' : TypeId} {by_ id off n c : Nat} {l : List Int} {o t : Bool} {K : Value → Mem → Prop} (hr : S.M[id]? = some (.live ⟨cellsL byteR l, o, t, e', 1⟩)) (hn : off + n ≤ l.length)
    (h1 : P.underlying dst = some .string) (h2 : qSlice P src = some (e, 1, by_)) (h3 : P.underlying e = some (.int .u8)) (hK : K (.string (bstr ((l.drop off).take n))) S.M) : b2sK P S K src dst (.slice (some ⟨id, off, none⟩) n c) := by
  refine ⟨h1, ow_iff.2 ⟨_, h2, h3, rfl, ?_⟩⟩
  have e : cellsAt S.M id off n = some (cellsL byteR ((l.drop off).take n)) := by
    unfold cellsAt
    rw [hr]
    simp only
    rw [if_pos (by rw [cellsL_len]; omega), cellsL_take, cellsL_drop, Nat.mul_one, Nat.mul_one]
  exact ow_iff.2 ⟨_, e, ow_iff.2 ⟨_, mapM_byte _, hK⟩⟩
def strB (s : ByteArray) : List Int := s.data.toList.map fun b => (b.toNat : Int)
theorem strB_len (s : ByteArray) : (strB s).length = s.size := by unfold strB; rw [List.length_map]; rfl
theorem strB_cells (s : ByteArray) : byteCells s = cellsL byteR (strB s) := by
  rw [cellsL_byte]
  unfold byteCells strB
  rw [List.map_map]
  rfl
end Go.Proofs.Ythopcmglcnlcfaa
