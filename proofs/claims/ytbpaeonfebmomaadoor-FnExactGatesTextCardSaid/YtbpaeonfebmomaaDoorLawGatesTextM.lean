/- For every input: the program's GatesText returns what the reference's returns, leaves its arguments alone, and hands back memory of its own. No conditions. -/
import Derived.Test.YtbpaeonfebmomaaDoorZzD8
import Derived.Test.YtbpaeonfebmomaaDoorCards
import Derived.Test.YtbpaeonfebmomaaDoorTie
import Derived.Deep.DeepHandedRow
import Derived.Stop.LaidErr
import Derived.LaidLaws
namespace Go.Proofs.YtbpaeonfebmomaaDoor
open Go.ChangeShapes Go.WideShapes Go.ChangeAt Go.RowKit
open Go.RowKit
set_option linter.unusedVariables false
set_option linter.unusedSimpArgs false
set_option maxRecDepth 100000
attribute [local simp] List.getElem?_cons_zero
attribute [local irreducible] awCond awCall awLoop awDraw ow retQ retC resQ Keeps

set_option maxHeartbeats 4000000 in
theorem lawGatesText_a {M : Mem} {vaList : Value} {xaList : List Gate} (raList : RdL gateR 0 M.length M vaList xaList) (waList : ∀ a ∈ xaList, ∃ ys : List Int, a = gateI.of ys ∧ ys.length = 5 ∧ ∀ z ∈ ys, (Lit.int .i64 z).wf = true) : Det Tryd.prog M.length 3 [vaList] M (.bool true) M := by
  have K0 := Keeps.refl M
  by_cases gaList : (1048576 : Int) < xaList.length
  · first | (refine det_fn Tryd.func3 rfl Tryd.ntmps3 Tryd.results3 rfl rfl rfl (by simp) ?_) | (refine det_fnC Tryd.func3 rfl Tryd.ntmps3 Tryd.results3 rfl rfl (by simp) ?_)
    simp
    refine awCall_det' (sz_GateS_over raList (z := 1048576) (by omega) (by omega) (by omega)) (by omega) ?_
    simp [K0]
  have eaList : xaList.length ≤ 1048576 := by omega
  first | (refine det_fn Tryd.func3 rfl Tryd.ntmps3 Tryd.results3 rfl rfl rfl (by simp) ?_) | (refine det_fnC Tryd.func3 rfl Tryd.ntmps3 Tryd.results3 rfl rfl (by simp) ?_)
  simp
  refine awCall_det' (sz_GateS raList (z := 1048576) (by omega) (by omega) (by omega)) (by omega) ?_
  try simp (disch := omega) [wrap_in, dec_neg, str_same]
  refine awCall_ctr ((to_GateS raList eaList).weaken (by omega)) ?_
  rintro _ M1 ⟨r_t1, k1⟩
  have n1 := k1.len
  replace raList := raList.keeps k1
  have K1 := K0.trans k1
  clear k1
  try simp (disch := omega) [wrap_in, dec_neg, str_same]
  refine awCall_det' (GatesText_sl r_t1.rd eaList) (by omega) ?_
  try simp (disch := omega) [wrap_in, dec_neg, str_same]
  refine awCall_ctr ((to_GateS raList eaList).weaken (by omega)) ?_
  rintro _ M2 ⟨r_t2, k2⟩
  have n2 := k2.len
  replace raList := raList.keeps k2
  replace r_t1 := r_t1.keeps k2
  have K2 := K1.trans k2
  clear k2
  try simp (disch := omega) [wrap_in, dec_neg, str_same]
  refine awCall_det' (GatesText_il r_t2.rd eaList) (by omega) ?_
  try simp (disch := omega) [wrap_in, dec_neg, str_same]
  refine awCall_ctr ((to_GateS raList eaList).weaken (by omega)) ?_
  rintro _ M3 ⟨r_t3, k3⟩
  have n3 := k3.len
  replace raList := raList.keeps k3
  replace r_t1 := r_t1.keeps k3
  replace r_t2 := r_t2.keeps k3
  have K3 := K2.trans k3
  clear k3
  try simp (disch := omega) [wrap_in, dec_neg, str_same]
  refine awCall_det' (eq_GateS r_t2 r_t3.rd) (by omega) ?_
  try simp (disch := omega) [wrap_in, dec_neg, str_same]
  try simp [K3]
theorem gok_tab {W : World} {name : String} (hn : Tryd.prog.globalNamed name = some 0) (h : Lib.TabIs Tryd.prog W name .u64 Lib.pow10Tab) : GOk W.heap[gB]? ∧ gB < W.heap.size := by
  unfold Lib.TabIs World.var? at h
  rw [hn] at h
  simp only [Option.bind_some] at h
  show GOk W.heap[0]? ∧ 0 < W.heap.size
  cases hc : W.heap[0]? with
  | none => simp [hc] at h
  | some o =>
    cases o with
    | cells cs e fr =>
      simp only [hc, Option.some.injEq] at h
      subst h
      exact ⟨⟨e, fr, rfl⟩, (Array.getElem?_eq_some_iff.1 hc).1⟩
    | _ => simp [hc] at h
theorem gok_of {W : World} (h : laidMetH Tryd.prog Rows.fnExactGatesTextRow.laid W) : GOk W.heap[gB]? ∧ gB < W.heap.size := by
  have h1 : laidMet Tryd.prog Rows.fnExactGatesTextRow.laid W := h
  have h2 := h1.tail.tail
  exact gok_tab (by kernel_rfl) (Lib.tabIs_of_head (g := 0) (k := .u64) (zs := Lib.pow10Tab) (by kernel_rfl) (by kernel_rfl) Tryd.underlying52 Tryd.underlying45 (by kernel_rfl) (by kernel_rfl) h2)
def setRow (vs : Array Value) : Obj → Obj
  | .cells _ t frozen => .cells vs t frozen
  | o => o
noncomputable def laidWorld (os : Os) : World :=
  { World.holding Tryd.prog os ⟨#[], #[], []⟩ with heap := ((((World.holding Tryd.prog os ⟨#[], #[], []⟩).heap).modify 1 (setRow #[.int .u8 0, .int .u8 1, .int .u8 28, .int .u8 2, .int .u8 29, .int .u8 14, .int .u8 24, .int .u8 3, .int .u8 30, .int .u8 22, .int .u8 20, .int .u8 15, .int .u8 25, .int .u8 17, .int .u8 4, .int .u8 8, .int .u8 31, .int .u8 27, .int .u8 13, .int .u8 23, .int .u8 21, .int .u8 19, .int .u8 16, .int .u8 7, .int .u8 26, .int .u8 12, .int .u8 18, .int .u8 6, .int .u8 11, .int .u8 5, .int .u8 10, .int .u8 9])).modify 2 (setRow #[.int .u8 0, .int .u8 1, .int .u8 56, .int .u8 2, .int .u8 57, .int .u8 49, .int .u8 28, .int .u8 3, .int .u8 61, .int .u8 58, .int .u8 42, .int .u8 50, .int .u8 38, .int .u8 29, .int .u8 17, .int .u8 4, .int .u8 62, .int .u8 47, .int .u8 59, .int .u8 36, .int .u8 45, .int .u8 43, .int .u8 51, .int .u8 22, .int .u8 53, .int .u8 39, .int .u8 33, .int .u8 30, .int .u8 24, .int .u8 18, .int .u8 12, .int .u8 5, .int .u8 63, .int .u8 55, .int .u8 48, .int .u8 27, .int .u8 60, .int .u8 41, .int .u8 37, .int .u8 16, .int .u8 46, .int .u8 35, .int .u8 44, .int .u8 21, .int .u8 52, .int .u8 32, .int .u8 23, .int .u8 11, .int .u8 54, .int .u8 26, .int .u8 40, .int .u8 15, .int .u8 34, .int .u8 20, .int .u8 31, .int .u8 10, .int .u8 25, .int .u8 14, .int .u8 19, .int .u8 9, .int .u8 13, .int .u8 8, .int .u8 7, .int .u8 6])).modify 0 (setRow #[.int .u64 1, .int .u64 10, .int .u64 100, .int .u64 1000, .int .u64 10000, .int .u64 100000, .int .u64 1000000, .int .u64 10000000, .int .u64 100000000, .int .u64 1000000000, .int .u64 10000000000, .int .u64 100000000000, .int .u64 1000000000000, .int .u64 10000000000000, .int .u64 100000000000000, .int .u64 1000000000000000, .int .u64 10000000000000000, .int .u64 100000000000000000, .int .u64 1000000000000000000, .int .u64 10000000000000000000]) }
theorem laid_met (os : Os) : laidMet Tryd.prog Rows.fnExactGatesTextRow.laid ((laidWorld os).forCall (fun _ _ => 0) ⟨#[], #[.slice none 0 0], []⟩).memory :=
  laidMet_of_run' 8 (by kernel_rfl) (by kernel_rfl)
theorem reads (os : Os) {H : Type} (enc : TypeId × Value → H) : ∃ places, DataW.whole enc Tryd.prog ((laidWorld os).forCall (fun _ _ => 0) ⟨#[], #[.slice none 0 0], []⟩).memory Tryd.f3.params.toList Rows.fnExactGatesTextSpec.vars false (#[.slice none 0 0] : Array Value).toList 8 = some ([.nil], [], places) :=
  ⟨[], by kernel_rfl⟩
set_option maxRecDepth 100000 in
theorem FnExactGatesText_lifted (os : Os) (started : os.Started) (H : Type) (enc : TypeId × Value → H) (F : Stop.Interp) :
    ReturnsInHanded {} Tryd.checked os 3 .any ((OpenSpec.ofChange Rows.fnExactGatesTextSpec).preRow enc Tryd.prog Tryd.f3 Rows.fnExactGatesTextRow.domain false Rows.fnExactGatesTextRow.laid) (((OpenSpec.ofChange Rows.fnExactGatesTextSpec).at F).post enc Tryd.prog Tryd.f3 false true false false) := by
  obtain ⟨places, hx⟩ := reads os enc
  refine returnsInHanded_of_row (C := Tryd.checked) (s := OpenSpec.ofChange Rows.fnExactGatesTextSpec) own_knob started (by kernel_rfl) Tryd.func3
    (witness_row_at (enc := enc) (C := Tryd.checked) false (laidWorld os) #[.slice none 0 0] rfl (by kernel_rfl) (by kernel_rfl) (by kernel_rfl)
      (OpenSpec.preRow_of_cond 8 hx (by kernel_rfl) (fun k hk => by cases hk) (by kernel_rfl) (laid_met os))) ?_
  intro W base args ds gs before hval0 hW _ _ _ hL _ _
  have hval : ∀ (j : Nat) t v, Tryd.f3.params[j]? = some t → args[j]? = some v → Value.okWide Tryd.prog W .any base t v := hval0
  have hW' := hW
  have hlt := hW.lt
  obtain ⟨p, q, hA0, hV, rfl, hfz, hnd⟩ := hW
  have hA : DataW.TrodAll enc Tryd.prog W 0 (fun _ => true) true Tryd.f3.params.toList args.toList ds p := hA0
  rw [Tryd.params3] at hA hval
  obtain ⟨v0, d0, rfl, rfl, h0⟩ := trodAll_one hA
  have ar0 := Arg.flats gateI Tryd.underlying22 (by kernel_rfl) (show Tryd.prog.cellsOf 35 = 5 from by kernel_rfl) (by omega) hlt (hval 0 _ v0 rfl rfl) h0 (fun x hx => by simp [hx])
  have R := AR.nil W (fun _ => gok_of hL)
  obtain ⟨L0, μ0, u0, R0, B0, n0, c0, l0, rfl, hn0, hs0, hw0⟩ := R.next ar0
  have K0 := RdL.of_sl hn0 hs0 c0
  refine (law_end R0 (lawGatesText_a  K0 hw0) ).mono fun e W' ⟨he, hb⟩ => ?_
  subst he
  exact ⟨_, rfl, law_post rfl rfl (by kernel_rfl) rfl hW' hb⟩
theorem FnExactGatesText_said : Rows.FnExactGatesTextSaid :=
  OpenClaim.holds_of_cond 3 Tryd.f3 rfl rfl rfl rfl rfl rfl rfl ⟨rfl, rfl, rfl, rfl, rfl⟩ rfl rfl rfl rfl rfl (by kernel_rfl) Tryd.func3 (by kernel_rfl)
    (of_decide_eq_true (by kernel_rfl)) (by unfold Func.isWrapper; first | (rw [if_pos (by decide +kernel)]; kernel_rfl) | (rw [if_neg (by decide +kernel)]; exact ⟨rfl, rfl⟩))
    (fun os started H enc _ F => by rw [OpenClaim.pre_eq_preRow]; exact FnExactGatesText_lifted os started H enc F)
theorem plain_fnExactGatesText (f : FuncId) (fn : Func) (hf : Tryd.pinned.checked.prog.funcNamed Rows.fnExactGatesTextRow.func = some f) (hfn : Tryd.pinned.checked.prog.funcs[f]? = some fn) :
    false = Tryd.pinned.checked.prog.looks [] ∧ ∀ (j : Nat) t, fn.params[j]? = some t → Tryd.pinned.checked.prog.wantsStandIn t = false := by
  obtain rfl : f = 3 := Option.some.inj ((show Tryd.prog.funcNamed Rows.fnExactGatesTextRow.func = some 3 by kernel_rfl).symm.trans hf) |>.symm
  obtain rfl : fn = Tryd.f3 := (Option.some.inj (Tryd.func3.symm.trans hfn)).symm
  refine ⟨by kernel_rfl, fun j t ht => ?_⟩
  have hm := Array.mem_of_getElem? ht
  have ha : (Tryd.f3.params.toList.all fun t => !Tryd.prog.wantsStandIn t) = true := by kernel_rfl
  have := List.all_eq_true.1 ha t (by simpa using hm)
  show Tryd.prog.wantsStandIn t = false
  simpa using this
theorem FnExactGatesText_holds : Rows.FnExactGatesTextCardSaid :=
  Claim7.holds_tied_plain_at .later [] _ _ _ _ FnExactGatesText_said (fun _ h => by cases h) (by kernel_rfl) (fun _ h => by cases h) fnExactGatesText_row_tie rfl ⟨rfl, rfl⟩ (by kernel_rfl) rfl plain_fnExactGatesText (by kernel_rfl)
#print axioms FnExactGatesText_holds
end Go.Proofs.YtbpaeonfebmomaaDoor
