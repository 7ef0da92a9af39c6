/- For every input: the program's ItemsText returns what the reference's returns, and leaves its arguments alone. No conditions. -/
import Derived.Test.YtodbjnngkonklaaGreatDoorZzA14
import Derived.Test.YtodbjnngkonklaaGreatDoorCards
import Derived.Test.YtodbjnngkonklaaGreatDoorTie
import Derived.Deep.DeepHandedRow
import Derived.Stop.LaidErr
import Derived.LaidLaws
namespace Go.Proofs.YtodbjnngkonklaaGreatDoor
open Go.ChangeShapes Go.WideShapes Go.ChangeAt Go.RowKit
open Go.RowKit
set_option linter.unusedVariables false
set_option linter.unusedSimpArgs false
set_option maxRecDepth 100000
attribute [local simp] List.getElem?_cons_zero
attribute [local irreducible] awCond awCall awLoop awDraw ow retQ retC resQ Keeps
theorem wt_small {l : List Item} (h : wtItemS l ≤ 1048576) : l.length ≤ 1048576 ∧ ∀ x, x ∈ l → x.ps.length ≤ 1048576 := by
  unfold wtItemS at h
  refine ⟨by omega, fun x hx => ?_⟩
  obtain ⟨k, hk, rfl⟩ := List.mem_iff_getElem.1 hx
  have h1 := sumW_succ wtItem (l := l) (k := k) hk
  have h2 := sumW_le wtItem l (k + 1)
  have e : el l k = l[k] := by simp [el, hk]
  rw [e] at h1
  have : wtItem l[k] = (l[k]).ps.length := rfl
  omega
set_option maxHeartbeats 4000000 in
theorem lawItemsText_a {M : Mem} {u : Value} {l : List Item} (r : SlV itemP 0 M.length M u l) : Det Tryz.prog M.length 3 [u] M (.bool true) M := by
  first | (refine det_fn Tryz.func3 rfl Tryz.ntmps3 Tryz.results3 rfl rfl rfl (by simp) ?_) | (refine det_fnC Tryz.func3 rfl Tryz.ntmps3 Tryz.results3 rfl rfl (by simp) ?_)
  simp
  refine awCall_det' (szItemS_x r (z := 1048576) (by omega) (by omega)) (by omega) ?_
  by_cases g : (1048576 : Int) - wtItemS l < 0
  · simp [g, Keeps.refl]
  obtain ⟨hn, hp⟩ := wt_small (l := l) (by omega)
  simp (disch := omega) [g]
  obtain ⟨v1, N1, d1, r1⟩ := toItemS_x r hn hp
  refine awCall_det' d1 (by omega) ?_
  obtain ⟨A, n, c, rfl, -, -, h1⟩ := id r1
  refine awCall_det' (ItemsText_s h1 (by have := h1.1; omega)) (by simp) ?_
  have K1 := keeps_app (M := M) N1
  replace r := SlV.keeps r K1
  have n1 := K1.len
  generalize M ++ N1 = M1 at *
  clear d1 r1 h1
  try simp (disch := omega)
  obtain ⟨v2, N2, d2, r2⟩ := toItemS_x r hn hp
  refine awCall_det' d2 (by omega) ?_
  have r2' := r2
  obtain ⟨A, n, c, rfl, -, -, h2⟩ := r2'
  have K2 := K1.trans (keeps_app N2)
  have n2 := K2.len
  replace r := SlV.keeps r (keeps_app N2)
  generalize M1 ++ N2 = M2 at *
  clear d2
  try simp (disch := omega)
  refine awCall_det' (ItemsText_i h2 (by have := h2.1; omega)) (by omega) ?_
  try simp (disch := omega) [str_same]
  obtain ⟨v3, N3, d3, r3⟩ := toItemS_x r hn hp
  refine awCall_det' d3 (by omega) ?_
  refine awCall_det' (eqItemS_x (SlV.keeps r2 (keeps_app N3)) r3) (by simp; omega) ?_
  simp [K2.trans (keeps_app N3)]
theorem gok_tab {W : World} {name : String} (hn : Tryz.prog.globalNamed name = some 0) (h : Lib.TabIs Tryz.prog W name .u64 Lib.pow10Tab) : GOk W.heap[gB]? ∧ gB < W.heap.size := by
  unfold Lib.TabIs World.var? at h
  rw [hn] at h
  simp only [Option.bind_some] at h
  show GOk W.heap[0]? ∧ 0 < W.heap.size
  cases hc : W.heap[0]? with
  | none => simp [hc] at h
  | some o =>
    cases o with
    | cells cs e fr =>
      simp only [hc, Option.some.injEq] at h
      subst h
      exact ⟨⟨e, fr, rfl⟩, (Array.getElem?_eq_some_iff.1 hc).1⟩
    | _ => simp [hc] at h
theorem gok_of {W : World} (h : laidMetH Tryz.prog Rows.fnExactItemsTextRow.laid W) : GOk W.heap[gB]? ∧ gB < W.heap.size := by
  have h1 : laidMet Tryz.prog Rows.fnExactItemsTextRow.laid W := h
  have h2 := h1.tail.tail
  exact gok_tab (by kernel_rfl) (Lib.tabIs_of_head (g := 0) (k := .u64) (zs := Lib.pow10Tab) (by kernel_rfl) (by kernel_rfl) Tryz.underlying120 Tryz.underlying100 (by kernel_rfl) (by kernel_rfl) h2)
def setRow (vs : Array Value) : Obj → Obj
  | .cells _ t frozen => .cells vs t frozen
  | o => o
noncomputable def laidWorld (os : Os) : World :=
  { World.holding Tryz.prog os ⟨#[], #[], []⟩ with heap := ((((World.holding Tryz.prog os ⟨#[], #[], []⟩).heap).modify 2 (setRow #[.int .u8 0, .int .u8 1, .int .u8 28, .int .u8 2, .int .u8 29, .int .u8 14, .int .u8 24, .int .u8 3, .int .u8 30, .int .u8 22, .int .u8 20, .int .u8 15, .int .u8 25, .int .u8 17, .int .u8 4, .int .u8 8, .int .u8 31, .int .u8 27, .int .u8 13, .int .u8 23, .int .u8 21, .int .u8 19, .int .u8 16, .int .u8 7, .int .u8 26, .int .u8 12, .int .u8 18, .int .u8 6, .int .u8 11, .int .u8 5, .int .u8 10, .int .u8 9])).modify 3 (setRow #[.int .u8 0, .int .u8 1, .int .u8 56, .int .u8 2, .int .u8 57, .int .u8 49, .int .u8 28, .int .u8 3, .int .u8 61, .int .u8 58, .int .u8 42, .int .u8 50, .int .u8 38, .int .u8 29, .int .u8 17, .int .u8 4, .int .u8 62, .int .u8 47, .int .u8 59, .int .u8 36, .int .u8 45, .int .u8 43, .int .u8 51, .int .u8 22, .int .u8 53, .int .u8 39, .int .u8 33, .int .u8 30, .int .u8 24, .int .u8 18, .int .u8 12, .int .u8 5, .int .u8 63, .int .u8 55, .int .u8 48, .int .u8 27, .int .u8 60, .int .u8 41, .int .u8 37, .int .u8 16, .int .u8 46, .int .u8 35, .int .u8 44, .int .u8 21, .int .u8 52, .int .u8 32, .int .u8 23, .int .u8 11, .int .u8 54, .int .u8 26, .int .u8 40, .int .u8 15, .int .u8 34, .int .u8 20, .int .u8 31, .int .u8 10, .int .u8 25, .int .u8 14, .int .u8 19, .int .u8 9, .int .u8 13, .int .u8 8, .int .u8 7, .int .u8 6])).modify 0 (setRow #[.int .u64 1, .int .u64 10, .int .u64 100, .int .u64 1000, .int .u64 10000, .int .u64 100000, .int .u64 1000000, .int .u64 10000000, .int .u64 100000000, .int .u64 1000000000, .int .u64 10000000000, .int .u64 100000000000, .int .u64 1000000000000, .int .u64 10000000000000, .int .u64 100000000000000, .int .u64 1000000000000000, .int .u64 10000000000000000, .int .u64 100000000000000000, .int .u64 1000000000000000000, .int .u64 10000000000000000000]) }
theorem laid_met (os : Os) : laidMet Tryz.prog Rows.fnExactItemsTextRow.laid ((laidWorld os).forCall (fun _ _ => 0) ⟨#[], #[.slice none 0 0], []⟩).memory :=
  laidMet_of_run' 8 (by kernel_rfl) (by kernel_rfl)
theorem reads (os : Os) {H : Type} (enc : TypeId × Value → H) : ∃ places, DataW.whole enc Tryz.prog ((laidWorld os).forCall (fun _ _ => 0) ⟨#[], #[.slice none 0 0], []⟩).memory Tryz.f3.params.toList Rows.fnExactItemsTextSpec.vars false (#[.slice none 0 0] : Array Value).toList 8 = some ([.nil], [], places) :=
  ⟨[], by kernel_rfl⟩
set_option maxRecDepth 100000 in
theorem FnExactItemsText_lifted (os : Os) (started : os.Started) (H : Type) (enc : TypeId × Value → H) (F : Stop.Interp) :
    ReturnsInHanded {} Tryz.checked os 3 .any ((OpenSpec.ofChange Rows.fnExactItemsTextSpec).preRow enc Tryz.prog Tryz.f3 Rows.fnExactItemsTextRow.domain false Rows.fnExactItemsTextRow.laid) (((OpenSpec.ofChange Rows.fnExactItemsTextSpec).at F).post enc Tryz.prog Tryz.f3 false true false false) := by
  obtain ⟨places, hx⟩ := reads os enc
  refine returnsInHanded_of_row (C := Tryz.checked) (s := OpenSpec.ofChange Rows.fnExactItemsTextSpec) own_knob started (by kernel_rfl) Tryz.func3
    (witness_row_at (enc := enc) (C := Tryz.checked) false (laidWorld os) #[.slice none 0 0] rfl (by kernel_rfl) (by kernel_rfl) (by kernel_rfl)
      (OpenSpec.preRow_of_cond 8 hx (by kernel_rfl) (fun k hk => by cases hk) (by kernel_rfl) (laid_met os))) ?_
  intro W base args ds gs before hval0 hW _ _ _ hL _ _
  have hval : ∀ (j : Nat) t v, Tryz.f3.params[j]? = some t → args[j]? = some v → Value.okWide Tryz.prog W .any base t v := hval0
  have hW' := hW
  have hlt := hW.lt
  obtain ⟨p, q, hA0, hV, rfl, hfz, hnd⟩ := hW
  have hA : DataW.TrodAll enc Tryz.prog W 0 (fun _ => true) true Tryz.f3.params.toList args.toList ds p := hA0
  rw [Tryz.params3] at hA hval
  obtain ⟨v0, d0, rfl, rfl, h0⟩ := trodAll_one hA
  have ar0 := (good_sl (enc := enc) Tryz.underlying22 (by kernel_rfl) (by omega) trivial good_item).argS Tryz.underlying22 hlt (hval 0 _ v0 rfl rfl) h0 (fun x hx => by simp [hx])
  have R := AR.nil W (fun _ => gok_of hL)
  obtain ⟨L0, μ0, u0, R0, x0, K0⟩ := R.next ar0
  refine (law_end R0 (lawItemsText_a K0)).mono fun e W' ⟨he, hb⟩ => ?_
  subst he
  exact ⟨_, rfl, law_post rfl rfl (by kernel_rfl) rfl hW' hb⟩
theorem FnExactItemsText_said : Rows.FnExactItemsTextSaid :=
  OpenClaim.holds_of_cond 3 Tryz.f3 rfl rfl rfl rfl rfl rfl rfl ⟨rfl, rfl, rfl, rfl, rfl⟩ rfl rfl rfl rfl rfl (by kernel_rfl) Tryz.func3 (by kernel_rfl)
    (of_decide_eq_true (by kernel_rfl)) (by unfold Func.isWrapper; first | (rw [if_pos (by decide +kernel)]; kernel_rfl) | (rw [if_neg (by decide +kernel)]; exact ⟨rfl, rfl⟩))
    (fun os started H enc _ F => by rw [OpenClaim.pre_eq_preRow]; exact FnExactItemsText_lifted os started H enc F)
theorem plain_fnExactItemsText (f : FuncId) (fn : Func) (hf : Tryz.pinned.checked.prog.funcNamed Rows.fnExactItemsTextRow.func = some f) (hfn : Tryz.pinned.checked.prog.funcs[f]? = some fn) :
    false = Tryz.pinned.checked.prog.looks [] ∧ ∀ (j : Nat) t, fn.params[j]? = some t → Tryz.pinned.checked.prog.wantsStandIn t = false := by
  obtain rfl : f = 3 := Option.some.inj ((show Tryz.prog.funcNamed Rows.fnExactItemsTextRow.func = some 3 by kernel_rfl).symm.trans hf) |>.symm
  obtain rfl : fn = Tryz.f3 := (Option.some.inj (Tryz.func3.symm.trans hfn)).symm
  refine ⟨by kernel_rfl, fun j t ht => ?_⟩
  have hm := Array.mem_of_getElem? ht
  have ha : (Tryz.f3.params.toList.all fun t => !Tryz.prog.wantsStandIn t) = true := by kernel_rfl
  have := List.all_eq_true.1 ha t (by simpa using hm)
  show Tryz.prog.wantsStandIn t = false
  simpa using this
theorem FnExactItemsText_holds : Rows.FnExactItemsTextCardSaid :=
  Claim7.holds_tied_plain_at .later [] _ _ _ _ FnExactItemsText_said (fun _ h => by cases h) (by kernel_rfl) (fun _ h => by cases h) fnExactItemsText_row_tie rfl ⟨rfl, rfl⟩ (by kernel_rfl) rfl plain_fnExactItemsText (by kernel_rfl)
#print axioms FnExactItemsText_holds
end Go.Proofs.YtodbjnngkonklaaGreatDoor
