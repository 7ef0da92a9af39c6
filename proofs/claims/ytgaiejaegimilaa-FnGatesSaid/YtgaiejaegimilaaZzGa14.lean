/- Parts of the proof, together: An argument that is a slice of bytes. The law of the gates of a score is walked. No conditions. -/
import Derived.Test.YtgaiejaegimilaaZzGa8
import Derived.Test.YtgaiejaegimilaaZzGa7
import Derived.Test.YtgaiejaegimilaaZzGa12
import Derived.Test.YtgaiejaegimilaaZzGa13
namespace Go.Proofs.Ytgaiejaegimilaa
open Go.ChangeShapes Go.WideShapes Go.ChangeAt Go.RowKit Go.Deep
set_option linter.unusedVariables false
set_option linter.unusedSimpArgs false
set_option maxRecDepth 100000
theorem code_cells (l : List Int) : cellsL codeR l = l.map (.int .u8) := by
  induction l with
  | nil => rfl
  | cons a l ih => rw [cellsL_cons, ih]; rfl
theorem open_code {H : Type} {enc : TypeId × Value → H} {W : World} {base : Nat} {t e : TypeId} {v : Value} {d : DataW H} {p q : List MemPlace} (ht : Try.prog.underlying t = some (.slice e)) (he : Try.prog.underlying e = some (.int .u8)) (hk : Try.prog.cellsOf e = 1)
    (hlt : ∀ x ∈ q, x.block < W.heap.size) (hv : Value.okWide Try.prog W .any base t v)
    (h : DataW.Trod enc Try.prog W 0 (fun _ => true) true t v d p) (hp : ∀ x ∈ p, x ∈ q) : ∃ (A : Option Addr) (n c : Nat) (zs : List Int), v = .slice A n c ∧ Rd W 1 A n c (cellsL codeR zs) ∧ (A = none → n = 0 ∧ c = 0) ∧ zs.length = n ∧ ∀ z ∈ zs, 0 ≤ z ∧ z ≤ 255 := by
  obtain ⟨a0, len, cap, rfl⟩ := okWide_slice ht hv
  obtain ⟨fuel, hf⟩ := h
  rcases open_slice ht hf with ⟨hcs, hx⟩ | ⟨a, len', cap', m, n, D, Pl, hcs, hb, hl, hm, hmm, hx, hi⟩
  · have hcs' : [Value.slice a0 len cap] = [.slice none 0 0] := hcs
    injection hcs' with hcs''
    injection hcs'' with h1 h2 h3
    subst h1; subst h2; subst h3
    exact ⟨_, _, _, [], rfl, ⟨by simp [cellsL], Nat.le_refl _, Nat.zero_le _, fun h => absurd h (by omega)⟩, fun _ => ⟨rfl, rfl⟩, rfl, by simp⟩
  · have hcs' : [Value.slice a0 len cap] = [.slice (some a) len' cap'] := hcs
    injection hcs' with hcs''
    injection hcs'' with h1 h2 h3
    subst h1; subst h2; subst h3
    simp only [if_pos] at hmm
    subst hmm
    rw [hk] at hx hi
    have each : ∀ i, i < len → ∃ z : Int, (0 ≤ z ∧ z ≤ 255) ∧ W.cell? (a.add i) = some (.int .u8 z) := by
      intro i hil
      obtain ⟨cs', hc, ht'⟩ := hi i (by omega)
      obtain ⟨_, hcl, hat⟩ := World.cells?_some hc
      obtain ⟨z, rfl, -, hw⟩ := DataW.trod_int he ht'
      refine ⟨z, ?_, ?_⟩
      · have e : (2 : Int) ^ IntKind.u8.bits = 256 := by decide
        have e2 : IntKind.u8.signed = false := rfl
        simp [Lit.wf, IntKind.min, IntKind.max, e2] at hw
        simp [IntKind.bits] at hw
        omega
      · have := hat 0 (by omega)
        rw [Nat.mul_one, add_add', Nat.add_zero] at this
        simpa using this
    have all : ∀ n', n' ≤ len → ∃ zs : List Int, zs.length = n' ∧ (∀ z ∈ zs, 0 ≤ z ∧ z ≤ 255) ∧ ∀ j x, zs[j]? = some x → W.cell? (a.add j) = some (.int .u8 x) := by
      intro n'
      induction n' with
      | zero => exact fun _ => ⟨[], rfl, by simp, fun j x h => by simp at h⟩
      | succ n' ih =>
        intro hn'
        obtain ⟨zs, hz1, hz2, hz3⟩ := ih (by omega)
        obtain ⟨y, hy1, hy2⟩ := each n' (by omega)
        refine ⟨zs ++ [y], by simp [hz1], fun z hz => ?_, fun j x hx => ?_⟩
        · rcases List.mem_append.1 hz with h | h
          · exact hz2 z h
          · simp at h; subst h; exact hy1
        · by_cases hj : j < n'
          · rw [List.getElem?_append_left (by omega)] at hx
            exact hz3 j x hx
          · rw [List.getElem?_append_right (by omega)] at hx
            have hj2 : j = n' := by
              have := (List.getElem?_eq_some_iff.1 hx).1
              simp at this
              omega
            subst hj2
            rw [hz1, Nat.sub_self] at hx
            simp at hx
            subst hx
            exact hy2
    obtain ⟨zs, hz1, hz2, hz3⟩ := all len (Nat.le_refl _)
    refine ⟨_, _, _, zs, rfl, ⟨by rw [cellsL_len, hz1], hl, hm, fun hn => ⟨a, rfl, ?_, fun j u hu => ?_⟩⟩, (fun h => nomatch h), hz1, hz2⟩
    · injection hx with _ hp'
      have hmem : ∃ x ∈ p, x.block = a.block := by
        refine ⟨.cell a.block (a.off + 0), ?_, rfl⟩
        rw [hp']
        refine List.mem_append_left _ ?_
        unfold MemPlace.row
        exact List.mem_map.2 ⟨0, by rw [List.mem_range]; omega, rfl⟩
      obtain ⟨x, hx1, hx2⟩ := hmem
      rw [← hx2]
      exact hlt x (hp x hx1)
    · rw [code_cells, List.getElem?_map] at hu
      obtain ⟨x, hx', rfl⟩ := Option.map_eq_some_iff.1 hu
      exact hz3 j x hx'
theorem Arg.code {H : Type} {enc : TypeId × Value → H} {W : World} {base : Nat} {t e : TypeId} {v : Value} {d : DataW H} {p q : List MemPlace} (ht : Try.prog.underlying t = some (.slice e)) (he : Try.prog.underlying e = some (.int .u8)) (hk : Try.prog.cellsOf e = 1)
    (hlt : ∀ x ∈ q, x.block < W.heap.size) (hv : Value.okWide Try.prog W .any base t v)
    (h : DataW.Trod enc Try.prog W 0 (fun _ => true) true t v d p) (hp : ∀ x ∈ p, x ∈ q) :
    Arg W v fun M v' => ∃ B n c cs, v' = .slice B n c ∧ n ≤ maxLen ∧ Sl codeR M B n cs ∧ ∀ x ∈ cs, 0 ≤ x ∧ x ≤ 255 := by
  obtain ⟨A, n, c, zs, rfl, h1, h2, h3, h4⟩ := open_code ht he hk hlt hv h hp
  intro M μ hr
  obtain ⟨L, μ', v, a1, a2, ⟨B, a3, a4, a5⟩, a6⟩ := Arg.slice h1 h3 (fun v hv => by rw [code_cells] at hv; obtain ⟨x, -, rfl⟩ := List.mem_map.1 hv; rfl) h2 M μ hr
  exact ⟨L, μ', v, a1, a2, ⟨B, n, c, zs, a3, a4, a5, h4⟩, a6⟩
attribute [local simp] List.getElem?_cons_zero
attribute [local irreducible] awCond awCall awLoop awDraw ow retQ retC resQ Keeps
theorem v8Long_a {M : Mem} {A B : Option Addr} {n c m d : Nat} : Det Try.prog M.length 27 [.slice A n c, .slice B m d] M (.bool (decide (1048576 < n) || decide (1048576 < m))) M := by
  first | (refine det_fn Try.func27 rfl Try.ntmps27 Try.results27 rfl rfl rfl (by simp) ?_) | (refine det_fnC Try.func27 rfl Try.ntmps27 Try.results27 rfl rfl (by simp) ?_)
  simp
  by_cases h1 : 1048576 < n
  · have h1' : (1048576 : Int) < n := by omega
    simp [h1, h1', Keeps.refl]
  · have h1' : ¬ (1048576 : Int) < n := by omega
    simp [h1, h1', Keeps.refl]
    omega
theorem v8At_a {M : Mem} {A : Option Addr} {n c : Nat} {cs : List Int} (k : Nat) (m : Int) (h : Sl codeR M A n cs) (hcs : ∀ x, x ∈ cs → 0 ≤ x ∧ x ≤ 255) (hk : k ≤ 1048576) (hm : m ≤ 1099511627776) (hn : n ≤ 1048576) :
    Ctr Try.prog M.length 43 [.slice A n c, iv k, iv m] M fun r M' => M' = M ∧ ∃ x : Int, r = iv x ∧ 0 ≤ x ∧ (x < m ∨ (m ≤ 1 ∧ x = 0)) := by
  have hl := h.1
  first | (refine ctr_fn Try.func43 rfl Try.ntmps43 Try.results43 rfl rfl (by simp) ?_) | (refine ctr_fnC Try.func43 rfl Try.ntmps43 Try.results43 rfl (by simp) ?_)
  simp
  by_cases h1 : m ≤ 1
  · simp [h1]
  · by_cases h2 : k < n
    · have h2' : ¬ n ≤ k := by omega
      have h2'' : ¬ (n : Int) ≤ k := by omega
      obtain ⟨id, off, rfl, he, hc⟩ := h.at_ h2
      have c0 : cellAt M id (off + k * 1) = some (.int .u8 (el cs k)) := hc 0 _ rfl
      simp only [Nat.mul_one] at c0
      have b0 := hcs _ (el_mem (l := cs) (i := k) (by omega))
      have hm0 : ¬ m = 0 := by omega
      have hmod : ∀ y : Int, 0 ≤ y → y.tmod m = y % m ∧ 0 ≤ y % m ∧ y % m < m := fun y hy => ⟨Int.tmod_eq_emod_of_nonneg hy, Int.emod_nonneg _ (by omega), Int.emod_lt_of_pos _ (by omega)⟩
      by_cases h3 : k + 1 < n
      · obtain ⟨_, _, e, _, hc2⟩ := h.at_ h3
        cases e
        have c1 : cellAt M id (off + (k + 1) * 1) = some (.int .u8 (el cs (k + 1))) := hc2 0 _ rfl
        simp only [Nat.mul_one] at c1
        have b1 := hcs _ (el_mem (l := cs) (i := k + 1) (by omega))
        have h3' : (k : Int) + 1 < n := by omega
        have e1 : ((k : Int) + 1).toNat = k + 1 := by omega
        obtain ⟨q1, q2, q3⟩ := hmod (256 * el cs k + el cs (k + 1)) (by omega)
        simp (disch := omega) [h1, h2', h2'', h2, he, c0, c1, h3', e1, wrap_in, hm0, q1]
        exact ⟨by omega, q2, q3⟩
      · have h3' : ¬ (k : Int) + 1 < n := by omega
        obtain ⟨q1, q2, q3⟩ := hmod (el cs k) (by omega)
        simp (disch := omega) [h1, h2', h2'', h2, he, c0, h3', wrap_in, hm0, q1]
        exact ⟨q2, q3⟩
    · have h2' : n ≤ k := by omega
      have h2'' : (n : Int) ≤ k := by omega
      simp [h1, h2', h2'']
      omega
end Go.Proofs.Ytgaiejaegimilaa

namespace Go.Proofs.Ytgaiejaegimilaa
open Go.RowKit
set_option linter.unusedVariables false
set_option linter.unusedSimpArgs false
set_option maxRecDepth 100000
attribute [local simp] List.getElem?_cons_zero
attribute [local irreducible] awCond awCall awLoop awDraw ow retQ retC resQ Keeps
theorem SampleOfBeat_l {M : Mem} {id : Nat} {A : Option Addr} {n c : Nat} {l : List Tempo} (b : Frac) (h : Sl tempoR M A n l) (hn : n ≤ 1099511627776) :
    Det Try.prog M.length 32 [.agg #[.slice A n c], b.v] M (.tuple #[iv (sampB l b).1, iv (sampB l b).2]) M := SampleOfBeat_s b h hn
set_option maxHeartbeats 4000000 in
theorem lawGates_a {M : Mem} {A B : Option Addr} {n c m d : Nat} {cs ds : List Int} (h : Sl codeR M A n cs) (hcs : ∀ x, x ∈ cs → 0 ≤ x ∧ x ≤ 255) (h2 : Sl codeR M B m ds) (hds : ∀ x, x ∈ ds → 0 ≤ x ∧ x ≤ 255) :
    Det Try.prog M.length 6 [.slice A n c, .slice B m d] M (.bool true) M := by
  have K0 := Keeps.refl M
  by_cases hlong : (decide (1048576 < n) || decide (1048576 < m)) = true
  · first | (refine det_fn Try.func6 rfl Try.ntmps6 Try.results6 rfl rfl rfl (by simp) ?_) | (refine det_fnC Try.func6 rfl Try.ntmps6 Try.results6 rfl rfl (by simp) ?_)
    simp
    refine awCall_det' v8Long_a (by omega) ?_
    simp [hlong, K0]
  have hn : n ≤ 1048576 := by simp at hlong; omega
  have hm : m ≤ 1048576 := by simp at hlong; omega
  simp only [Bool.not_eq_true] at hlong
  first | (refine det_fn Try.func6 rfl Try.ntmps6 Try.results6 rfl rfl rfl (by simp) ?_) | (refine det_fnC Try.func6 rfl Try.ntmps6 Try.results6 rfl rfl (by simp) ?_)
  simp
  refine awCall_det' v8Long_a (by omega) ?_
  simp [hlong]
  refine awCall_ctr (E8Score_a h hn hcs) ?_
  rintro _ M1 ⟨l, v, rfl, hA, hl, hv, -, k1⟩
  have n1 := k1.len
  obtain ⟨A1, q, c1, rfl, hq, hsl, -⟩ := hA.sl
  refine ⟨rfl, ?_⟩
  rw [put_box (b := M.length) (cs := [.slice none 0 0]) (vs := (Value.agg #[.slice A1 q c1]).cells.toList) (by omega) rfl (by simp), ow_some]
  have k1' := k1.app [Slot.live ⟨(Value.agg #[.slice A1 q c1]).cells.toList, true, true, 30, 1⟩]
  refine awCall_ctr ((E8Tempos_a (h2.keeps k1') hm hds).weaken (by simp; omega)) ?_
  rintro _ M2 ⟨t, w, rfl, hT, ht, k2⟩
  have n2 := k2.len
  simp only [List.length_append, List.length_cons, List.length_nil] at n2
  obtain ⟨A2, q2, c2, rfl, hq2, hst, -⟩ := hT.sl
  refine ⟨rfl, ?_⟩
  rw [put_box (b := M.length) (cs := [.slice none 0 0]) (vs := (Value.agg #[.slice A2 q2 c2]).cells.toList) (by omega) rfl (by simp), ow_some]
  obtain ⟨M3, hM3⟩ : ∃ M' : Mem, M' = M2 ++ [Slot.live ⟨(Value.agg #[.slice A2 q2 c2]).cells.toList, true, true, 43, 1⟩] := ⟨_, rfl⟩
  have b1 : M3[M1.length]? = some (Slot.live ⟨[.slice A1 q c1], true, true, 30, 1⟩) := by
    rw [hM3]; exact (k2.app _).get getElem?_snoc_eq
  have b2 : M3[M2.length]? = some (Slot.live ⟨[.slice A2 q2 c2], true, true, 43, 1⟩) := by rw [hM3]; exact getElem?_snoc_eq
  have k3 : Keeps M M3 := by rw [hM3]; exact (k1'.trans k2).app _
  have s1 : Sl noteR M3 A1 q l := by rw [hM3]; exact ((hsl.app _).keeps k2).app _
  have s2 : Sl tempoR M3 A2 q2 t := by rw [hM3]; exact hst.app _
  rw [← hM3]
  clear hM3 hT hA hst hsl k1 k1' k2
  generalize M1.length = p1 at *
  generalize M2.length = p2 at *
  have n3 : p2 < M3.length := (List.getElem?_eq_some_iff.1 b2).1
  have e1 := cells_hr (n := 1) b1 rfl
  have e2 := cells_hr (n := 1) b2 rfl
  simp (disch := omega) [e1, e2]
  refine awCall_ctr ((GatesOfScore_i s1 (by omega) s2 (by omega)).weaken (by omega)) ?_
  rintro r M4 ⟨g0, rfl, hg0, k4⟩
  have n4 := k4.len
  have b14 := k4.get b1
  have b24 := k4.get b2
  have e1 := cells_hr (n := 1) b14 rfl
  have e2 := cells_hr (n := 1) b24 rfl
  simp (disch := omega) [e1, e2]
  refine awCall_det' (PerformLength_i (s1.keeps k4) (by omega) (s2.keeps k4) (by omega)) (by omega) ?_
  simp (disch := omega) [e1, e2]
  have k34 := k3.trans k4
  by_cases he : (gatesV l t).2 = 0
  case neg =>
    simp [he, e1, e2]
    refine awCall_ctr ((GatesOfScore_s (s1.keeps k4) (by omega) (s2.keeps k4) (by omega)).weaken (by omega)) ?_
    rintro r M5 ⟨g1, rfl, hg1, k5⟩
    simp [perfV]
    exact k34.trans k5
  simp [he, perfV]
  have hsc : scoreB l = true ∧ tempB t = true := by
    unfold gatesV at he
    by_cases hh : scoreB l = true ∧ tempB t = true
    · exact hh
    · rw [if_neg hh] at he; cases he
  have hgF : gatesV l t = (gatesF t l, 0) ∧ ∀ x, x ∈ l → badG t x = false := by
    rw [gatesV_ok hsc.1 hsc.2] at he ⊢
    unfold gF at he ⊢
    by_cases hb : l.any (badG t) = true
    · rw [if_pos hb] at he; cases he
    · rw [if_neg hb]
      refine ⟨rfl, fun x hx => ?_⟩
      cases hbx : badG t x with
      | false => rfl
      | true => exact absurd (List.any_eq_true.2 ⟨x, hx, hbx⟩) hb
  obtain ⟨hgv, hnb⟩ := hgF
  rw [hgv] at hg0 ⊢
  have hokG := gatesF_ok hsc.1 hnb
  have hlenG := gatesF_len t l
  refine awCall_det' (ValidGates_sl hg0.rd (by show (gatesF t l).length ≤ _; omega)) (by omega) ?_
  obtain ⟨A5, q5, c5, rfl, hq5, s5, -, -⟩ := hg0
  have l5 := s5.1
  have l1 := s1.1
  replace l5 : (gatesF t l).length = q5 := l5
  replace s5 : Sl gateR M4 A5 q5 (gatesF t l) := s5
  have a1 : ¬ (q : Int) < q5 := by omega
  simp [hokG, cell_hr b14, a1]
  refine awLoop_T (fun m T M' => ∃ i : Nat, i + m = q ∧ Keeps M4 M' ∧ look T 15 = some (iv i) ∧ look T 13 = some (iv (gatesF t (l.take i)).length) ∧ look T 14 = some (iv (maxE (gatesF t (l.take i)))) ∧ look T 9 = some (iv (maxE (gatesF t l))) ∧ look T 7 = some (.slice A5 q5 c5) ∧ look T 6 = some (.pointer (some ⟨p2, 0, none⟩)) ∧ look T 5 = some (.pointer (some ⟨p1, 0, none⟩))) q
    ⟨0, by omega, Keeps.refl _, by simp, by simp [gatesF], by simp [gatesF, maxE], by simp, by simp, by simp, by simp⟩ ?_
  rintro k T M5 ⟨i, hi, k5, t15, t13, t14, t9, t7, t6, t5⟩
  have n5 := k5.len
  have b15 := k5.get b14
  have b25 := k5.get b24
  have f1 := fun L => cellAt_app (cell_hr b15 0) L
  have f2 := fun L => cellsAt_app (cells_hr (n := 1) b25 rfl) L
  have f1' := cell_hr b15 0
  have f2' := cells_hr (n := 1) b25 rfl
  by_cases hlt : i < q
  case neg =>
    have : i = q := by omega
    subst this
    rw [List.take_of_length_le (by omega)] at t13 t14
    simp [t15, t13, t14, t9, t7, t5, f1', l5]
    exact k34.trans k5
  obtain ⟨id, off, rfl, hez, hc⟩ := ((s1.keeps k4).keeps k5).at_ hlt
  obtain ⟨a0, a1', a2, a3, a4, a5, a6⟩ := note_cells hc
  obtain ⟨c0, c2'⟩ := note_cellsN hc
  simp (disch := omega) [t15, t5, f1', hlt]
  refine awDraw_M 17 [[],[0],[],[1,0,2],[3,1,0,2],[4,3,1,0,2],[],[6],[],[7,6,8],[9,7,6,8],[10,9,7,6,8],[5,4,3,1,0,2,11,10,9,7,6,8],[12,5,4,3,1,0,2,11,10,9,7,6,8],[13,12,5,4,3,1,0,2,11,10,9,7,6,8],[13,12,5,4,3,1,0,2,11,10,9,7,6,8],[],[16,14,13,12,5,4,3,1,0,2,11,10,9,7,6,8],[15,13,12,5,4,3,1,0,2,11,10,9,7,6,8,17,16,14]] [15] (by kernel_rfl) (by decide +kernel) (by decide +kernel) ?_
  simp (disch := omega) [t15, t5, f1', hlt, hez, c0, c2']
  refine awCall_det' (AddFrac_s (el l i).at_ (el l i).len) (by simp) ?_
  have hfin : (addF (el l i).at_ (el l i).len).1 = (el l i).fin := rfl
  have hnv := noteB_iff.1 (hv (el l i) (el_mem (by omega)))
  rw [hfin, hnv.2.2.2.1]
  simp (disch := omega)
  obtain ⟨M6, hM6⟩ : ∃ M' : Mem, M' = M5 ++ [Slot.live ⟨[iv (el l i).fin.n, iv (el l i).fin.d], true, true, 58, 2⟩] := ⟨_, rfl⟩
  have b6 : M6[M5.length]? = some (Slot.live ⟨[iv (el l i).fin.n, iv (el l i).fin.d], true, true, 58, 2⟩) := by rw [hM6]; exact getElem?_snoc_eq
  have k56 : Keeps M5 M6 := by rw [hM6]; exact keeps_app _
  rw [← hM6]
  clear hM6
  have k6 := k5.trans k56
  have n6 := k6.len
  have g1 := fun L => cellAt_app (cell_hr (k56.get b15) 0) L
  have g2 := fun L => cellsAt_app (cells_hr (n := 1) (k56.get b25) rfl) L
  have g1' := cell_hr (k56.get b15) 0
  have g2' := cells_hr (n := 1) (k56.get b25) rfl
  have hc6 := hc.keeps k56
  obtain ⟨a0, a1', a2, a3, a4, a5, a6⟩ := note_cells hc6
  obtain ⟨c0, c2'⟩ := note_cellsN hc6
  have g6 := cells_hr (n := 2) b6 rfl
  have hez6 := rowEsz_keeps k56 hez
  have s26 := (s2.keeps k4).keeps k6
  refine awDraw_M 13 [[],[],[1],[],[2,1,3],[4,2,1,3],[5,4,2,1,3],[0,6,5,4,2,1,3],[7,0,6,5,4,2,1,3],[8,7,0,6,5,4,2,1,3],[8,7,0,6,5,4,2,1,3],[9,8,7,0,6,5,4,2,1,3],[10,8,7,0,6,5,4,2,1,3,11,9]] [] (by kernel_rfl) (by decide +kernel) (by decide +kernel) ?_
  simp (disch := omega) [t15, t6, t5, g1', g2', hlt, hez6, c0, c2']
  refine awCall_det' (SampleOfBeat_s (c := c2) (el l i).at_ s26 (by omega)) (by simp) ?_
  obtain ⟨z1, z2, z3⟩ := badG_no (hnb (el l i) (el_mem (by omega)))
  rw [z1]
  simp (disch := omega) [t15, t6, t5, g1', g2', g6]
  refine awCall_det' (SampleOfBeat_s (c := c2) (el l i).fin s26 (by omega)) (by omega) ?_
  rw [z2]
  simp (disch := omega) [t15, t6, t5, g1', g2', g6]
  have hle := sampB_mono z1 z2 (note_up (hv (el l i) (el_mem (by omega))))
  have htk := gatesF_take (t := t) (l := l) (k := i) (by omega)
  by_cases heq : (sampB t (el l i).at_).1 = (sampB t (el l i).fin).1
  · have hnl : longG t (el l i) = false := by unfold longG; exact decide_eq_false (by omega)
    rw [hnl] at htk
    simp only [Bool.false_eq_true, if_false, List.append_nil] at htk
    simp (disch := omega) [heq, t15, wrap_in]
    exact lpI (k - 1) (by omega) ⟨i + 1, by omega, k6, by simp, by rw [htk]; simp [t13], by rw [htk]; simp [t14], by simp [t9], by simp [t7], by simp [t6], by simp [t5]⟩
  · have hl' : longG t (el l i) = true := by unfold longG; exact decide_eq_true (by omega)
    rw [hl', if_pos rfl] at htk
    simp (disch := omega) [heq]
    have happ : gatesF t l = gatesF t (l.take i) ++ (noteG t (el l i) :: gatesF t (l.drop (i + 1))) := by
      have e1 : ∀ a b : List Note, gatesF t (a ++ b) = gatesF t a ++ gatesF t b := fun a b => by unfold gatesF; rw [List.filter_append, List.map_append]
      have := e1 (l.take (i + 1)) (l.drop (i + 1))
      rw [List.take_append_drop, htk, List.append_assoc] at this
      exact this
    have hw : (gatesF t (l.take i)).length < q5 := by rw [← l5, happ]; simp
    have hel : el (gatesF t l) (gatesF t (l.take i)).length = noteG t (el l i) := by
      rw [happ, el_append_right (Nat.le_refl _), Nat.sub_self]; rfl
    obtain ⟨id5, off5, rfl, he5, hc5⟩ := (s5.keeps k6).at_ hw
    rw [hel] at hc5
    obtain ⟨x0, x1, x2, x3, x4⟩ := gate_cells hc5
    have hmx := maxE_take (l := gatesF t (l.take (i + 1))) (k := (gatesF t (l.take i)).length) (by rw [htk]; simp)
    rw [List.take_of_length_le (l := gatesF t (l.take (i + 1))) (by rw [htk]; simp), htk, List.take_left, el_append_right (Nat.le_refl _), Nat.sub_self] at hmx
    replace hmx : maxE (gatesF t (l.take i) ++ [noteG t (el l i)]) = max (maxE (gatesF t (l.take i))) (sampB t (el l i).fin).1 := hmx
    generalize hW : (gatesF t (l.take i)).length = W at *
    generalize hE : maxE (gatesF t (l.take i)) = E at *
    have hlq : (W : Int) < q5 := by omega
    have hlq' : ¬ q5 ≤ W := by omega
    refine awDraw_E 48 [[],[],[1],[0,2,1],[3,0,2,1],[4,3,0,2,1],[4,3,0,2,1],[5,4,3,0,2,1,6],[7,5,4,3,0,2,1,6],[8,7,5,4,3,0,2,1,6],[4,3,0,2,1],[9,8,7,5,4,3,0,2,1,6,10],[4,3,0,2,1,11,9,8,7,5,6,10],[12,4,3,0,2,1,11,9,8,7,5,6,10],[13,12,4,3,0,2,1,11,9,8,7,5,6,10],[13,12,4,3,0,2,1,11,9,8,7,5,6,10],[14,13,12,4,3,0,2,1,11,9,8,7,5,6,10,15],[16,14,13,12,4,3,0,2,1,11,9,8,7,5,6,10,15],[17,16,14,13,12,4,3,0,2,1,11,9,8,7,5,6,10,15],[13,12,4,3,0,2,1,11,9,8,7,5,6,10],[18,17,16,14,13,12,4,3,0,2,1,11,9,8,7,5,6,10,15,19],[13,12,4,3,0,2,1,11,9,8,7,5,6,10,20,18,17,16,14,15,19],[21,13,12,4,3,0,2,1,11,9,8,7,5,6,10,20,18,17,16,14,15,19],[22,21,13,12,4,3,0,2,1,11,9,8,7,5,6,10,20,18,17,16,14,15,19],[22,21,13,12,4,3,0,2,1,11,9,8,7,5,6,10,20,18,17,16,14,15,19],[23,22,21,13,12,4,3,0,2,1,11,9,8,7,5,6,10,20,18,17,16,14,15,19,24],[25,23,22,21,13,12,4,3,0,2,1,11,9,8,7,5,6,10,20,18,17,16,14,15,19,24],[26,25,23,22,21,13,12,4,3,0,2,1,11,9,8,7,5,6,10,20,18,17,16,14,15,19,24],[22,21,13,12,4,3,0,2,1,11,9,8,7,5,6,10,20,18,17,16,14,15,19],[28,22,21,13,12,4,3,0,2,1,11,9,8,7,5,6,10,20,18,17,16,14,15,19],[22,21,13,12,4,3,0,2,1,11,9,8,7,5,6,10,20,18,17,16,14,15,19],[29,28,22,21,13,12,4,3,0,2,1,11,9,8,7,5,6,10,20,18,17,16,14,15,19,30],[31,29,28,22,21,13,12,4,3,0,2,1,11,9,8,7,5,6,10,20,18,17,16,14,15,19,30],[32,31,29,28,22,21,13,12,4,3,0,2,1,11,9,8,7,5,6,10,20,18,17,16,14,15,19,30],[27,26,25,23,22,21,13,12,4,3,0,2,1,11,9,8,7,5,6,10,20,18,17,16,14,15,19,24,33,32,31,29,28,30],[22,21,13,12,4,3,0,2,1,11,9,8,7,5,6,10,20,18,17,16,14,15,19,34,27,26,25,23,24,33,32,31,29,28,30],[35,22,21,13,12,4,3,0,2,1,11,9,8,7,5,6,10,20,18,17,16,14,15,19,34,27,26,25,23,24,33,32,31,29,28,30],[36,35,22,21,13,12,4,3,0,2,1,11,9,8,7,5,6,10,20,18,17,16,14,15,19,34,27,26,25,23,24,33,32,31,29,28,30],[36,35,22,21,13,12,4,3,0,2,1,11,9,8,7,5,6,10,20,18,17,16,14,15,19,34,27,26,25,23,24,33,32,31,29,28,30],[37,36,35,22,21,13,12,4,3,0,2,1,11,9,8,7,5,6,10,20,18,17,16,14,15,19,34,27,26,25,23,24,33,32,31,29,28,30,38],[39,37,36,35,22,21,13,12,4,3,0,2,1,11,9,8,7,5,6,10,20,18,17,16,14,15,19,34,27,26,25,23,24,33,32,31,29,28,30,38],[40,39,37,36,35,22,21,13,12,4,3,0,2,1,11,9,8,7,5,6,10,20,18,17,16,14,15,19,34,27,26,25,23,24,33,32,31,29,28,30,38],[36,35,22,21,13,12,4,3,0,2,1,11,9,8,7,5,6,10,20,18,17,16,14,15,19,34,27,26,25,23,24,33,32,31,29,28,30],[42,36,35,22,21,13,12,4,3,0,2,1,11,9,8,7,5,6,10,20,18,17,16,14,15,19,34,27,26,25,23,24,33,32,31,29,28,30],[36,35,22,21,13,12,4,3,0,2,1,11,9,8,7,5,6,10,20,18,17,16,14,15,19,34,27,26,25,23,24,33,32,31,29,28,30],[43,42,36,35,22,21,13,12,4,3,0,2,1,11,9,8,7,5,6,10,20,18,17,16,14,15,19,34,27,26,25,23,24,33,32,31,29,28,30,44],[45,43,42,36,35,22,21,13,12,4,3,0,2,1,11,9,8,7,5,6,10,20,18,17,16,14,15,19,34,27,26,25,23,24,33,32,31,29,28,30,44],[46,45,43,42,36,35,22,21,13,12,4,3,0,2,1,11,9,8,7,5,6,10,20,18,17,16,14,15,19,34,27,26,25,23,24,33,32,31,29,28,30,44],[41,40,39,37,36,35,22,21,13,12,4,3,0,2,1,11,9,8,7,5,6,10,20,18,17,16,14,15,19,34,27,26,25,23,24,33,32,31,29,28,30,38,47,46,45,43,42,44],[36,35,22,21,13,12,4,3,0,2,1,11,9,8,7,5,6,10,20,18,17,16,14,15,19,34,27,26,25,23,24,33,32,31,29,28,30,48,41,40,39,37,38,47,46,45,43,42,44]] (by kernel_rfl) (by kernel_rfl) ?_
    simp (disch := omega) [t15, t13, t14, t7, t6, t5, g1', hlt, hez6, he5, x0, x1, x2, x3, x4, a4, a5, hw, hlq', noteG]
    by_cases hEE : E < (sampB t (el l i).fin).1
    · rw [show max E (sampB t (el l i).fin).1 = (sampB t (el l i).fin).1 by omega] at hmx
      simp (disch := omega) [hEE, t15, t13, t14, wrap_in]
      exact lpI (k - 1) (by omega) ⟨i + 1, by omega, k6, by simp, by rw [htk]; simp [hW], by rw [htk, hmx]; simp, by simp [t9], by simp [t7], by simp [t6], by simp [t5]⟩
    · rw [show max E (sampB t (el l i).fin).1 = E by omega] at hmx
      simp (disch := omega) [hEE, t15, t13, t14, wrap_in]
      exact lpI (k - 1) (by omega) ⟨i + 1, by omega, k6, by simp, by rw [htk]; simp [hW], by rw [htk, hmx]; simp [t14], by simp [t9], by simp [t7], by simp [t6], by simp [t5]⟩
end Go.Proofs.Ytgaiejaegimilaa
