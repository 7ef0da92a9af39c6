/- Parts of the proof, together: An argument that is a slice of bytes. The law of a score and its events is walked. No conditions. -/
import Derived.Test.YtbpaeonfebmomaaZzF8
import Derived.Test.YtbpaeonfebmomaaZzF11
import Derived.Test.YtbpaeonfebmomaaZzF12
import Derived.Test.YtbpaeonfebmomaaZzF13
import Derived.Test.YtbpaeonfebmomaaZzF17
namespace Go.Proofs.Ytbpaeonfebmomaa
open Go.ChangeShapes Go.WideShapes Go.ChangeAt Go.RowKit Go.Deep
set_option linter.unusedVariables false
set_option linter.unusedSimpArgs false
set_option maxRecDepth 100000
theorem code_cells (l : List Int) : cellsL codeR l = l.map (.int .u8) := by
  induction l with
  | nil => rfl
  | cons a l ih => rw [cellsL_cons, ih]; rfl
theorem open_code {H : Type} {enc : TypeId × Value → H} {W : World} {base : Nat} {t e : TypeId} {v : Value} {d : DataW H} {p q : List MemPlace} (ht : Try.prog.underlying t = some (.slice e)) (he : Try.prog.underlying e = some (.int .u8)) (hk : Try.prog.cellsOf e = 1)
    (hlt : ∀ x ∈ q, x.block < W.heap.size) (hv : Value.okWide Try.prog W .any base t v)
    (h : DataW.Trod enc Try.prog W 0 (fun _ => true) true t v d p) (hp : ∀ x ∈ p, x ∈ q) : ∃ (A : Option Addr) (n c : Nat) (zs : List Int), v = .slice A n c ∧ Rd W 1 A n c (cellsL codeR zs) ∧ (A = none → n = 0 ∧ c = 0) ∧ zs.length = n ∧ ∀ z ∈ zs, 0 ≤ z ∧ z ≤ 255 := by
  obtain ⟨a0, len, cap, rfl⟩ := okWide_slice ht hv
  obtain ⟨fuel, hf⟩ := h
  rcases open_slice ht hf with ⟨hcs, hx⟩ | ⟨a, len', cap', m, n, D, Pl, hcs, hb, hl, hm, hmm, hx, hi⟩
  · have hcs' : [Value.slice a0 len cap] = [.slice none 0 0] := hcs
    injection hcs' with hcs''
    injection hcs'' with h1 h2 h3
    subst h1; subst h2; subst h3
    exact ⟨_, _, _, [], rfl, ⟨by simp [cellsL], Nat.le_refl _, Nat.zero_le _, fun h => absurd h (by omega)⟩, fun _ => ⟨rfl, rfl⟩, rfl, by simp⟩
  · have hcs' : [Value.slice a0 len cap] = [.slice (some a) len' cap'] := hcs
    injection hcs' with hcs''
    injection hcs'' with h1 h2 h3
    subst h1; subst h2; subst h3
    simp only [if_pos] at hmm
    subst hmm
    rw [hk] at hx hi
    have each : ∀ i, i < len → ∃ z : Int, (0 ≤ z ∧ z ≤ 255) ∧ W.cell? (a.add i) = some (.int .u8 z) := by
      intro i hil
      obtain ⟨cs', hc, ht'⟩ := hi i (by omega)
      obtain ⟨_, hcl, hat⟩ := World.cells?_some hc
      obtain ⟨z, rfl, -, hw⟩ := DataW.trod_int he ht'
      refine ⟨z, ?_, ?_⟩
      · have e : (2 : Int) ^ IntKind.u8.bits = 256 := by decide
        have e2 : IntKind.u8.signed = false := rfl
        simp [Lit.wf, IntKind.min, IntKind.max, e2] at hw
        simp [IntKind.bits] at hw
        omega
      · have := hat 0 (by omega)
        rw [Nat.mul_one, add_add', Nat.add_zero] at this
        simpa using this
    have all : ∀ n', n' ≤ len → ∃ zs : List Int, zs.length = n' ∧ (∀ z ∈ zs, 0 ≤ z ∧ z ≤ 255) ∧ ∀ j x, zs[j]? = some x → W.cell? (a.add j) = some (.int .u8 x) := by
      intro n'
      induction n' with
      | zero => exact fun _ => ⟨[], rfl, by simp, fun j x h => by simp at h⟩
      | succ n' ih =>
        intro hn'
        obtain ⟨zs, hz1, hz2, hz3⟩ := ih (by omega)
        obtain ⟨y, hy1, hy2⟩ := each n' (by omega)
        refine ⟨zs ++ [y], by simp [hz1], fun z hz => ?_, fun j x hx => ?_⟩
        · rcases List.mem_append.1 hz with h | h
          · exact hz2 z h
          · simp at h; subst h; exact hy1
        · by_cases hj : j < n'
          · rw [List.getElem?_append_left (by omega)] at hx
            exact hz3 j x hx
          · rw [List.getElem?_append_right (by omega)] at hx
            have hj2 : j = n' := by
              have := (List.getElem?_eq_some_iff.1 hx).1
              simp at this
              omega
            subst hj2
            rw [hz1, Nat.sub_self] at hx
            simp at hx
            subst hx
            exact hy2
    obtain ⟨zs, hz1, hz2, hz3⟩ := all len (Nat.le_refl _)
    refine ⟨_, _, _, zs, rfl, ⟨by rw [cellsL_len, hz1], hl, hm, fun hn => ⟨a, rfl, ?_, fun j u hu => ?_⟩⟩, (fun h => nomatch h), hz1, hz2⟩
    · injection hx with _ hp'
      have hmem : ∃ x ∈ p, x.block = a.block := by
        refine ⟨.cell a.block (a.off + 0), ?_, rfl⟩
        rw [hp']
        refine List.mem_append_left _ ?_
        unfold MemPlace.row
        exact List.mem_map.2 ⟨0, by rw [List.mem_range]; omega, rfl⟩
      obtain ⟨x, hx1, hx2⟩ := hmem
      rw [← hx2]
      exact hlt x (hp x hx1)
    · rw [code_cells, List.getElem?_map] at hu
      obtain ⟨x, hx', rfl⟩ := Option.map_eq_some_iff.1 hu
      exact hz3 j x hx'
theorem Arg.code {H : Type} {enc : TypeId × Value → H} {W : World} {base : Nat} {t e : TypeId} {v : Value} {d : DataW H} {p q : List MemPlace} (ht : Try.prog.underlying t = some (.slice e)) (he : Try.prog.underlying e = some (.int .u8)) (hk : Try.prog.cellsOf e = 1)
    (hlt : ∀ x ∈ q, x.block < W.heap.size) (hv : Value.okWide Try.prog W .any base t v)
    (h : DataW.Trod enc Try.prog W 0 (fun _ => true) true t v d p) (hp : ∀ x ∈ p, x ∈ q) :
    Arg W v fun M v' => ∃ B n c cs, v' = .slice B n c ∧ n ≤ maxLen ∧ Sl codeR M B n cs ∧ ∀ x ∈ cs, 0 ≤ x ∧ x ≤ 255 := by
  obtain ⟨A, n, c, zs, rfl, h1, h2, h3, h4⟩ := open_code ht he hk hlt hv h hp
  intro M μ hr
  obtain ⟨L, μ', v, a1, a2, ⟨B, a3, a4, a5⟩, a6⟩ := Arg.slice h1 h3 (fun v hv => by rw [code_cells] at hv; obtain ⟨x, -, rfl⟩ := List.mem_map.1 hv; rfl) h2 M μ hr
  exact ⟨L, μ', v, a1, a2, ⟨B, n, c, zs, a3, a4, a5, h4⟩, a6⟩
attribute [local simp] List.getElem?_cons_zero
attribute [local irreducible] awCond awCall awLoop awDraw ow retQ retC resQ Keeps
theorem v8Long_a {M : Mem} {A B : Option Addr} {n c m d : Nat} : Det Try.prog M.length 5 [.slice A n c, .slice B m d] M (.bool (decide (1048576 < n) || decide (1048576 < m))) M := by
  first | (refine det_fn Try.func5 rfl Try.ntmps5 Try.results5 rfl rfl rfl (by simp) ?_) | (refine det_fnC Try.func5 rfl Try.ntmps5 Try.results5 rfl rfl (by simp) ?_)
  simp
  by_cases h1 : 1048576 < n
  · have h1' : (1048576 : Int) < n := by omega
    simp [h1, h1', Keeps.refl]
  · have h1' : ¬ (1048576 : Int) < n := by omega
    simp [h1, h1', Keeps.refl]
    omega
theorem v8At_a {M : Mem} {A : Option Addr} {n c : Nat} {cs : List Int} (k : Nat) (m : Int) (h : Sl codeR M A n cs) (hcs : ∀ x, x ∈ cs → 0 ≤ x ∧ x ≤ 255) (hk : k ≤ 1048576) (hm : m ≤ 1099511627776) (hn : n ≤ 1048576) :
    Ctr Try.prog M.length 9 [.slice A n c, iv k, iv m] M fun r M' => M' = M ∧ ∃ x : Int, r = iv x ∧ 0 ≤ x ∧ (x < m ∨ (m ≤ 1 ∧ x = 0)) := by
  have hl := h.1
  first | (refine ctr_fn Try.func9 rfl Try.ntmps9 Try.results9 rfl rfl (by simp) ?_) | (refine ctr_fnC Try.func9 rfl Try.ntmps9 Try.results9 rfl (by simp) ?_)
  simp
  by_cases h1 : m ≤ 1
  · simp [h1]
  · by_cases h2 : k < n
    · have h2' : ¬ n ≤ k := by omega
      have h2'' : ¬ (n : Int) ≤ k := by omega
      obtain ⟨id, off, rfl, he, hc⟩ := h.at_ h2
      have c0 : cellAt M id (off + k * 1) = some (.int .u8 (el cs k)) := hc 0 _ rfl
      simp only [Nat.mul_one] at c0
      have b0 := hcs _ (el_mem (l := cs) (i := k) (by omega))
      have hm0 : ¬ m = 0 := by omega
      have hmod : ∀ y : Int, 0 ≤ y → y.tmod m = y % m ∧ 0 ≤ y % m ∧ y % m < m := fun y hy => ⟨Int.tmod_eq_emod_of_nonneg hy, Int.emod_nonneg _ (by omega), Int.emod_lt_of_pos _ (by omega)⟩
      by_cases h3 : k + 1 < n
      · obtain ⟨_, _, e, _, hc2⟩ := h.at_ h3
        cases e
        have c1 : cellAt M id (off + (k + 1) * 1) = some (.int .u8 (el cs (k + 1))) := hc2 0 _ rfl
        simp only [Nat.mul_one] at c1
        have b1 := hcs _ (el_mem (l := cs) (i := k + 1) (by omega))
        have h3' : (k : Int) + 1 < n := by omega
        have e1 : ((k : Int) + 1).toNat = k + 1 := by omega
        obtain ⟨q1, q2, q3⟩ := hmod (256 * el cs k + el cs (k + 1)) (by omega)
        simp (disch := omega) [h1, h2', h2'', h2, he, c0, c1, h3', e1, wrap_in, hm0, q1]
        exact ⟨by omega, q2, q3⟩
      · have h3' : ¬ (k : Int) + 1 < n := by omega
        obtain ⟨q1, q2, q3⟩ := hmod (el cs k) (by omega)
        simp (disch := omega) [h1, h2', h2'', h2, he, c0, h3', wrap_in, hm0, q1]
        exact ⟨q2, q3⟩
    · have h2' : n ≤ k := by omega
      have h2'' : (n : Int) ≤ k := by omega
      simp [h1, h2', h2'']
      omega
end Go.Proofs.Ytbpaeonfebmomaa

namespace Go.Proofs.Ytbpaeonfebmomaa
open Go.RowKit
set_option linter.unusedVariables false
set_option linter.unusedSimpArgs false
set_option maxRecDepth 100000
attribute [local simp] List.getElem?_cons_zero
attribute [local irreducible] awCond awCall awLoop awDraw ow retQ retC resQ Keeps
theorem hit_no {l : List Note} (h : ClashNo l) : hitB l = false := hitB_no.2 h
set_option maxHeartbeats 4000000 in
theorem lawScoreStream_a {M : Mem} {A B : Option Addr} {n c m d : Nat} {cs ds : List Int} (h : Sl codeR M A n cs) (hcs : ∀ x, x ∈ cs → 0 ≤ x ∧ x ≤ 255) (h2 : Sl codeR M B m ds) (hds : ∀ x, x ∈ ds → 0 ≤ x ∧ x ≤ 255) :
    Det Try.prog M.length 3 [.slice A n c, .slice B m d] M (.bool true) M := by
  have K0 := Keeps.refl M
  by_cases hlong : (decide (1048576 < n) || decide (1048576 < m)) = true
  · first | (refine det_fn Try.func3 rfl Try.ntmps3 Try.results3 rfl rfl rfl (by simp) ?_) | (refine det_fnC Try.func3 rfl Try.ntmps3 Try.results3 rfl rfl (by simp) ?_)
    simp
    refine awCall_det' v8Long_a (by omega) ?_
    simp [hlong, K0]
  have hn : n ≤ 1048576 := by simp at hlong; omega
  have hm : m ≤ 1048576 := by simp at hlong; omega
  simp only [Bool.not_eq_true] at hlong
  first | (refine det_fn Try.func3 rfl Try.ntmps3 Try.results3 rfl rfl rfl (by simp) ?_) | (refine det_fnC Try.func3 rfl Try.ntmps3 Try.results3 rfl rfl (by simp) ?_)
  simp
  refine awCall_det' v8Long_a (by omega) ?_
  simp [hlong]
  refine awCall_ctr (E8Score_a h hn hcs) ?_
  rintro _ M1 ⟨l, v, rfl, hA, hl, hv, hcl, k1⟩
  have n1 := k1.len
  obtain ⟨A1, q, c1, rfl, hq, hsl, -⟩ := hA.sl
  refine ⟨rfl, ?_⟩
  rw [put_box (b := M.length) (cs := [.slice none 0 0]) (vs := (Value.agg #[.slice A1 q c1]).cells.toList) (by omega) rfl (by simp), ow_some]
  obtain ⟨M2, hM2⟩ : ∃ M' : Mem, M' = M1 ++ [Slot.live ⟨(Value.agg #[.slice A1 q c1]).cells.toList, true, true, 26, 1⟩] := ⟨_, rfl⟩
  have b1 : M2[M1.length]? = some (Slot.live ⟨[.slice A1 q c1], true, true, 26, 1⟩) := by rw [hM2]; exact getElem?_snoc_eq
  have k2 : Keeps M M2 := by rw [hM2]; exact k1.app _
  have n2 : M2.length = M1.length + 1 := by rw [hM2]; simp
  have s1 : Sl noteR M2 A1 q l := by rw [hM2]; exact hsl.app _
  rw [← hM2]
  clear hM2 hA hsl
  generalize M1.length = p1 at *
  have e1 := cells_hr (n := 1) b1 rfl
  have l1 := s1.1
  simp (disch := omega) [e1]
  refine awCall_det' (DivisionOf_i s1 (by omega)) (by omega) ?_
  simp (disch := omega) [e1]
  by_cases he : (divV l).2 = 0
  case neg =>
    simp (disch := omega) [he, e1]
    refine awCall_det' (DivisionOf_s s1 (by omega)) (by omega) ?_
    simp (disch := omega) [k2]
  have hdv : divV l = ((divV l).1, 0) := by rw [← he]
  obtain ⟨hs, hdb, hda, hdn⟩ := div_all hdv
  obtain ⟨D, hD⟩ : ∃ D, D = (divV l).1 := ⟨_, rfl⟩
  rw [← hD] at hdb hda hdn
  rw [← hD]
  have g1 : ¬ D < 1 := by omega
  have g2 : ¬ 960 < D := by omega
  have g3 : ¬ D = 0 := by omega
  obtain ⟨Z, hZ⟩ : ∃ Z, Z = Int.tdiv 960 D := ⟨_, rfl⟩
  have hZe : Z = 960 / D := by rw [hZ]; exact Int.tdiv_eq_ediv_of_nonneg (by omega)
  have hZ0 : 0 ≤ Z := by rw [hZe]; exact Int.ediv_nonneg (by omega) (by omega)
  have hZm : Z * D ≤ 960 := by rw [hZe]; exact Int.ediv_mul_le 960 g3
  have hZ1 : Z ≤ 960 := by
    have : Z * 1 ≤ Z * D := Int.mul_le_mul_of_nonneg_left (by omega) hZ0
    omega
  simp (disch := omega) [he, g1, g2, g3, e1, ← hZ, wrap_in]
  refine awCall_ctr ((v8At_a 0 Z (h2.keeps k2) hds (by omega) (by omega) hm).weaken (by omega)) ?_
  rintro _ _ ⟨rfl, x, rfl, hx0, hx⟩
  have hm1 : D * (1 + x) ≤ 960 ∧ 1 ≤ 1 + x ∧ D ≤ D * (1 + x) ∧ 1 + x ≤ 961 := by
    have hd : D * 1 ≤ D * (1 + x) := Int.mul_le_mul_of_nonneg_left (by omega) (by omega)
    rcases hx with hx | hx
    · have h1 : D * (1 + x) ≤ D * Z := Int.mul_le_mul_of_nonneg_left (by omega) (by omega)
      rw [Int.mul_comm D Z] at h1
      omega
    · rw [hx.2] at hd ⊢
      omega
  simp (disch := omega) [e1, wrap_in]
  obtain ⟨E, hE⟩ : ∃ E, E = D * (1 + x) := ⟨_, rfl⟩
  rw [← hE] at hm1
  have hok := hda (1 + x) hm1.2.1
  rw [← hE] at hok
  rw [← hE]
  obtain ⟨u1, u2⟩ := sos_back hs (by omega) hok (hit_no hcl)
  have hst : stV l E = (dltE 0 (sortE (evsL E l)), 0) := by
    unfold stV
    rw [if_neg (by simp [hs]), if_neg (by rw [inB_iff.2 (by omega)]; simp), if_neg (by simp [hok]), if_neg (by simp [hit_no hcl])]
  refine awCall_ctr ((StreamOfScore_i E s1 (by omega)).weaken (by omega)) ?_
  rintro _ M3 ⟨v3, rfl, ho3, k3⟩
  have n3 := k3.len
  rw [hst] at ho3 ⊢
  have b13 := k3.get b1
  have e13 := cells_hr (n := 1) b13 rfl
  obtain ⟨A3, q3, c3, rfl, hr3⟩ := id ho3
  simp (disch := omega) [e13, wrap_in]
  refine awCall_ctr ((ScoreOfStream_il ho3.rd E (by show (dltE 0 (sortE (evsL E l))).length ≤ _; rw [dltE_len, (sortE_perm _).length_eq, evsL_len]; omega)).weaken (by omega)) ?_
  rintro _ M4 ⟨v4, rfl, ho4, k4⟩
  have n4 := k4.len
  have hu : sosV (dltE 0 (sortE (evsL E l)), (0 : Int)).1 E = (l, 0) := u2
  rw [hu] at ho4 ⊢
  have ho34 := ho3.keeps k4
  obtain ⟨_, _, _, x3, -, s3, -⟩ := id ho34
  injection x3 with x3 x4 x5
  subst x3 x4 x5
  have hq3 : q3 = 2 * q := by
    rw [← s3.1]
    show (dltE 0 (sortE (evsL E l))).length = _
    rw [dltE_len, (sortE_perm _).length_eq, evsL_len, l1]
  have b14 := k4.get b13
  have e14 := cells_hr (n := 1) b14 rfl
  have f14 := cell_hr b14 0
  obtain ⟨A4, q4, c4, rfl, hr4⟩ := id ho4
  obtain ⟨M5, hM5⟩ : ∃ M' : Mem, M' = M4 ++ [Slot.live ⟨[.slice A4 q4 c4], true, true, 26, 1⟩] := ⟨_, rfl⟩
  have b5 : M5[M4.length]? = some (Slot.live ⟨[.slice A4 q4 c4], true, true, 26, 1⟩) := by rw [hM5]; exact getElem?_snoc_eq
  have k45 : Keeps M4 M5 := by rw [hM5]; exact keeps_app _
  have n5 : M5.length = M4.length + 1 := by rw [hM5]; simp
  have b15 := k45.get b14
  have e15 := cells_hr (n := 1) b15 rfl
  have f15 := cell_hr b15 0
  have e5 := cells_hr (n := 1) b5 rfl
  have f5 := cell_hr b5 0
  subst hq3
  simp (disch := omega) [e14, f14, wrap_in, ← hM5, e15, f15, e5, f5]
  refine awCall_det' (ValidStream_sl (ho34.keeps k45).rd (by show (dltE 0 (sortE (evsL E l))).length ≤ _; rw [dltE_len, (sortE_perm _).length_eq, evsL_len]; omega)) (by omega) ?_
  have u1' : okE (dltE 0 (sortE (evsL E l)), (0 : Int)).1 = true := u1
  rw [u1']
  simp (disch := omega) [e15, f15, e5, f5]
  obtain ⟨_, _, _, x6, -, s6, -⟩ := id (ho4.keeps k45)
  injection x6 with x6 x7 x8
  subst x6 x7 x8
  have s5 := ((s1.keeps k3).keeps k4).keeps k45
  have l6 := s6.1
  have l6' : l.length = q4 := l6
  refine awCall_det' (SameScore_s (c := c4) (d := c1) s6 s5 (by omega)) (by omega) ?_
  have K5 : Keeps M M5 := ((k2.trans k3).trans k4).trans k45
  by_cases hD1 : 1 < D
  case neg =>
    simp (disch := omega) [hD1]
    exact K5
  have hst1 : stV l (D - 1) = ([], 6) := by
    unfold stV
    rw [if_neg (by simp [hs]), if_neg (by rw [inB_iff.2 (by omega)]; simp), if_pos (hdn hD1)]
  simp (disch := omega) [hD1, e15, wrap_in]
  refine awCall_ctr ((StreamOfScore_i (D - 1) s5 (by omega)).weaken (by omega)) ?_
  rintro _ M6 ⟨v6, rfl, ho6, k6⟩
  rw [hst1]
  simp (disch := omega) []
  exact K5.trans k6
end Go.Proofs.Ytbpaeonfebmomaa
