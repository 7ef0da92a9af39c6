/- For every input: the program's SameStream returns what the reference's returns, leaves its arguments alone, and hands back memory of its own. No conditions. -/
import Derived.Test.YtdpglbhiaebnoaaE1
namespace Go.Proofs.Ytdpglbhiaebnoaa
open Go.ChangeShapes Go.WideShapes Go.ChangeAt Go.RowKit
open Go.RowKit
set_option linter.unusedVariables false
set_option linter.unusedSimpArgs false
attribute [local simp] List.getElem?_cons_zero
attribute [local irreducible] awCond awCall awLoop awDraw ow retQ retC resQ Keeps

theorem lawSameStream_a {M : Mem} {vaA : Value} {xaA : List StreamEvent} {vaB : Value} {xaB : List StreamEvent} (raA : RdL streamEventR 0 M.length M vaA xaA) (waA : ∀ a ∈ xaA, ∃ ys : List Int, a = streamEventI.of ys ∧ ys.length = 5 ∧ ∀ z ∈ ys, (Lit.int .i64 z).wf = true) (raB : RdL streamEventR 0 M.length M vaB xaB) (waB : ∀ a ∈ xaB, ∃ ys : List Int, a = streamEventI.of ys ∧ ys.length = 5 ∧ ∀ z ∈ ys, (Lit.int .i64 z).wf = true) : Det Try.prog M.length 3 [vaA, vaB] M (.bool true) M := by
  have K0 := Keeps.refl M
  by_cases gaA : (1048576 : Int) < xaA.length
  · first | (refine det_fn Try.func3 rfl Try.ntmps3 Try.results3 rfl rfl rfl (by simp) ?_) | (refine det_fnC Try.func3 rfl Try.ntmps3 Try.results3 rfl rfl (by simp) ?_)
    simp
    refine awCall_det' (sz_StreamEventS_over raA (z := 1048576) (by omega) (by omega) (by omega)) (Nat.le_refl _) ?_
    simp [Keeps.refl]
  have eaA : xaA.length ≤ 1048576 := by omega
  by_cases gaB : (1048576 - xaA.length : Int) < xaB.length
  · first | (refine det_fn Try.func3 rfl Try.ntmps3 Try.results3 rfl rfl rfl (by simp) ?_) | (refine det_fnC Try.func3 rfl Try.ntmps3 Try.results3 rfl rfl (by simp) ?_)
    simp
    refine awCall_det' (sz_StreamEventS raA (z := 1048576) (by omega) (by omega) (by omega)) (Nat.le_refl _) ?_
    try simp (disch := omega) [wrap_in]
    refine awCond_split ?_ ?_ <;> intro hq
    · simp at hq
      omega
    clear hq
    try simp (disch := omega) [wrap_in]
    refine awCall_det' (sz_StreamEventS_over raB (z := 1048576 - xaA.length) (by omega) (by omega) (by omega)) (Nat.le_refl _) ?_
    simp [Keeps.refl]
  have eaB : xaB.length ≤ 1048576 := by omega
  first | (refine det_fn Try.func3 rfl Try.ntmps3 Try.results3 rfl rfl rfl (by simp) ?_) | (refine det_fnC Try.func3 rfl Try.ntmps3 Try.results3 rfl rfl (by simp) ?_)
  simp
  refine awCall_det' (sz_StreamEventS raA (z := 1048576) (by omega) (by omega) (by omega)) (Nat.le_refl _) ?_
  try simp (disch := omega) [wrap_in]
  refine awCond_split ?_ ?_ <;> intro hq
  · simp at hq
    omega
  clear hq
  try simp (disch := omega) [wrap_in]
  refine awCall_det' (sz_StreamEventS raB (z := 1048576 - xaA.length) (by omega) (by omega) (by omega)) (Nat.le_refl _) ?_
  try simp (disch := omega) [wrap_in]
  refine awCond_split ?_ ?_ <;> intro hq
  · simp at hq
    omega
  clear hq
  try simp (disch := omega) [wrap_in]
  refine awCall_ctr ((to_StreamEventS raA eaA).weaken (by omega)) ?_
  rintro _ M1 ⟨r_t1, k1⟩
  have n1 := k1.len
  replace raA := raA.keeps k1
  replace raB := raB.keeps k1
  have K1 := K0.trans k1
  clear k1
  try simp (disch := omega) [wrap_in]
  refine awCall_ctr ((to_StreamEventS raB eaB).weaken (by omega)) ?_
  rintro _ M2 ⟨r_t2, k2⟩
  have n2 := k2.len
  replace raA := raA.keeps k2
  replace raB := raB.keeps k2
  replace r_t1 := r_t1.keeps k2
  have K2 := K1.trans k2
  clear k2
  try simp (disch := omega) [wrap_in]
  refine awCall_det' (SameStream_sl r_t1.rd r_t2.rd eaA) (by omega) ?_
  try simp (disch := omega) [wrap_in]
  refine awCall_ctr ((to_StreamEventS raA eaA).weaken (by omega)) ?_
  rintro _ M3 ⟨r_t3, k3⟩
  have n3 := k3.len
  replace raA := raA.keeps k3
  replace raB := raB.keeps k3
  replace r_t1 := r_t1.keeps k3
  replace r_t2 := r_t2.keeps k3
  have K3 := K2.trans k3
  clear k3
  try simp (disch := omega) [wrap_in]
  refine awCall_ctr ((to_StreamEventS raB eaB).weaken (by omega)) ?_
  rintro _ M4 ⟨r_t4, k4⟩
  have n4 := k4.len
  replace raA := raA.keeps k4
  replace raB := raB.keeps k4
  replace r_t1 := r_t1.keeps k4
  replace r_t2 := r_t2.keeps k4
  replace r_t3 := r_t3.keeps k4
  have K4 := K3.trans k4
  clear k4
  try simp (disch := omega) [wrap_in]
  refine awCall_det' (SameStream_il r_t3.rd r_t4.rd eaA) (by omega) ?_
  try simp (disch := omega) [wrap_in]
  refine awCall_ctr ((to_StreamEventS raA eaA).weaken (by omega)) ?_
  rintro _ M5 ⟨r_t5, k5⟩
  have n5 := k5.len
  replace raA := raA.keeps k5
  replace raB := raB.keeps k5
  replace r_t1 := r_t1.keeps k5
  replace r_t2 := r_t2.keeps k5
  replace r_t3 := r_t3.keeps k5
  replace r_t4 := r_t4.keeps k5
  have K5 := K4.trans k5
  clear k5
  try simp (disch := omega) [wrap_in]
  refine awCall_det' (eq_StreamEventS r_t3 r_t5.rd) (by omega) ?_
  try simp (disch := omega) [wrap_in]
  refine awCall_ctr ((to_StreamEventS raB eaB).weaken (by omega)) ?_
  rintro _ M6 ⟨r_t6, k6⟩
  have n6 := k6.len
  replace raA := raA.keeps k6
  replace raB := raB.keeps k6
  replace r_t1 := r_t1.keeps k6
  replace r_t2 := r_t2.keeps k6
  replace r_t3 := r_t3.keeps k6
  replace r_t4 := r_t4.keeps k6
  replace r_t5 := r_t5.keeps k6
  have K6 := K5.trans k6
  clear k6
  try simp (disch := omega) [wrap_in]
  refine awCall_det' (eq_StreamEventS r_t4 r_t6.rd) (by omega) ?_
  try simp (disch := omega) [wrap_in]
  try simp [K6]
set_option maxRecDepth 100000 in
theorem FnExactSameStream_lifted (os : Os) (started : os.Started) (H : Type) (enc : TypeId × Value → H) :
    ReturnsInHanded {} Try.checked os 3 .any (Rows.fnExactSameStreamSpec.pre6 enc Try.prog Try.f3 Rows.fnExactSameStreamRow.domain false) (Rows.fnExactSameStreamSpec.post enc Try.prog Try.f3 false true false false) := by
  refine returnsInHanded_of_change (C := Try.checked) own_knob started (by kernel_rfl) Try.func3
    (ChangeSpec.witness6 (enc := enc) (C := Try.checked) false ⟨#[], #[.slice none 0 0, .slice none 0 0], []⟩ 8 (by kernel_rfl) (by kernel_rfl) (by kernel_rfl) (by kernel_rfl)) ?_
  intro W base args ds gs before hval0 hW hcnd _
  have hval : ∀ (j : Nat) t v, Try.f3.params[j]? = some t → args[j]? = some v → Value.okWide Try.prog W .any base t v := hval0
  have hW' := hW
  have hlt := hW.lt
  obtain ⟨p, q, hA0, hV, rfl, hfz, hnd⟩ := hW
  have hA : DataW.TrodAll enc Try.prog W 0 (fun _ => true) true Try.f3.params.toList args.toList ds p := hA0
  rw [Try.params3] at hA hval
  obtain ⟨v0, v1, d0, d1, p0, p1, rfl, rfl, rfl, h0, h1⟩ := trodAll_two hA
  have ar0 := Arg.flats streamEventI Try.underlying22 (by kernel_rfl) (show Try.prog.cellsOf 48 = 5 from by kernel_rfl) (by omega) hlt (hval 0 _ v0 rfl rfl) h0 (fun x hx => by simp [hx])
  have ar1 := Arg.flats streamEventI Try.underlying22 (by kernel_rfl) (show Try.prog.cellsOf 48 = 5 from by kernel_rfl) (by omega) hlt (hval 1 _ v1 rfl rfl) h1 (fun x hx => by simp [hx])
  have R := AR.nil W
  obtain ⟨L0, μ0, u0, R0, B0, n0, c0, l0, rfl, hn0, hs0, hw0⟩ := R.next ar0
  have K0 := RdL.of_sl hn0 hs0 c0
  obtain ⟨L1, μ1, u1, R1, B1, n1, c1, l1, rfl, hn1, hs1, hw1⟩ := R0.next ar1
  have K1 := RdL.of_sl hn1 hs1 c1
  replace K0 := K0.up L1
  refine (law_end R1 (lawSameStream_a  K0 hw0 K1 hw1) ).mono fun e W' ⟨he, hb⟩ => ?_
  subst he
  exact ⟨_, rfl, law_post rfl rfl (by kernel_rfl) rfl hW' hb⟩
theorem FnExactSameStream_holds : Rows.FnExactSameStreamSaid :=
  OpenClaim.holds_of_wide 3 Try.f3 rfl rfl rfl rfl rfl rfl rfl ⟨rfl, rfl, rfl, rfl, rfl⟩ rfl rfl rfl rfl rfl (by kernel_rfl) Try.func3 (by kernel_rfl)
    (of_decide_eq_true (by kernel_rfl)) (by unfold Func.isWrapper; first | (rw [if_pos (by decide +kernel)]; kernel_rfl) | (rw [if_neg (by decide +kernel)]; exact ⟨rfl, rfl⟩))
    (fun os started H enc _ => FnExactSameStream_lifted os started H enc)
#print axioms FnExactSameStream_holds
end Go.Proofs.Ytdpglbhiaebnoaa
