/- Fades: plain laws, and contracts. No conditions. -/
import Derived.Test.YthopcmglcnlcfaaF1
import Derived.Test.YthopcmglcnlcfaaOFade3
import Derived.Test.YthopcmglcnlcfaaOSplice2
namespace Go.Proofs.Ythopcmglcnlcfaa
open Go.RowKit
set_option linter.unusedVariables false
set_option linter.unusedSimpArgs false
set_option maxRecDepth 100000
attribute [local simp] List.getElem?_cons_zero
attribute [local irreducible] awCond awCall awLoop awDraw ow retQ retC resQ Keeps
theorem sigB_of {l : List Int} (h : ∀ i, i < l.length → smp (el l i)) (hl : l.length ≤ 4000) : Old.sigB l = true := by
  unfold Old.sigB Old.allB
  rw [Bool.and_eq_true, List.all_eq_true]
  refine ⟨decide_eq_true hl, fun x hx => ?_⟩
  obtain ⟨i, hi, rfl⟩ := List.getElem_of_mem hx
  rw [el_eq hi]
  exact Old.inB_iff.2 (h i hi)
theorem addL_len (x y : List Int) (g : Int) : (Old.addL x y g).length = max x.length y.length := by simp [Old.addL, Old.addK]
theorem gi_addL {x y : List Int} {g : Int} {i : Nat} (h : i < max x.length y.length) : Old.gi (Old.addL x y g) i = Old.w32 (Old.gi x i + g * Old.gi y i) := by
  have hl : i < (Old.addL x y g).length := by rw [addL_len]; exact h
  rw [← Old.gi_eq hl]
  simp [Old.addL, Old.addK]
theorem smp_addL (x y : List Int) (g : Int) : ∀ i, i < (Old.addL x y g).length → smp (el (Old.addL x y g) i) := by
  intro i hi
  rw [addL_len] at hi
  rw [el_gi, gi_addL hi]
  exact smp_w32 _
theorem rest_back {a f : List Int} (ha : ∀ i, i < a.length → smp (el a i)) (hl : f.length = a.length) : Old.addL f (Old.addL a f (-1)) 1 = a := by
  have h1 : (Old.addL a f (-1)).length = a.length := by rw [addL_len]; omega
  refine Old.ext_gi (by rw [addL_len, h1]; omega) fun i hi => ?_
  rw [addL_len, h1] at hi
  rw [gi_addL (by rw [h1]; exact hi), gi_addL (by omega), Int.one_mul, Old.w32_add_r]
  have := ha i (by omega)
  rw [el_gi] at this
  rw [show Old.gi f i + (Old.gi a i + -1 * Old.gi f i) = Old.gi a i by omega]
  exact Old.w32_id this.1 this.2
theorem cross_self {a m : List Int} {n : Nat} (h : a.length = n) : Old.crossL a a m n = a := by
  refine Old.ext_gi (by rw [Old.crossL_len, h]) fun i hi => ?_
  have hi' := hi
  rw [Old.crossL_len] at hi
  rw [← Old.gi_eq hi']
  simp only [Old.crossL, List.getElem_map, List.getElem_range]
  exact Old.cross_same _ _
theorem el_cross {a b m : List Int} {n i : Nat} (h : i < n) : el (Old.crossL a b m n) i = Old.crossV (el a i) (el b i) (el m i) := by
  rw [← el_eq (l := Old.crossL a b m n) (by rw [Old.crossL_len]; exact h)]
  simp only [Old.crossL, List.getElem_map, List.getElem_range]
  rfl
/-- A number between two others. -/
theorem cross_in {a b v : Int} (h0 : 0 ≤ v) (h1 : v ≤ 256) : (¬ Old.crossV a b v < a ∨ ¬ Old.crossV a b v < b) ∧ (¬ a < Old.crossV a b v ∨ ¬ b < Old.crossV a b v) := by
  rcases Int.le_total a b with h | h
  · have := Old.cross_between a b v h0 h1 h
    omega
  · have := Old.cross_between b a v h0 h1 h
    omega
theorem sl_take {M : Mem} {A : Option Addr} {n k : Nat} {l : List Int} (h : Sl intR M A n l) (hk : k ≤ n) : Sl intR M A k (l.take k) := by
  refine ⟨by rw [List.length_take, h.1]; omega, fun h0 => ?_⟩
  obtain ⟨id, off, e, he, hc⟩ := h.2 (by omega)
  refine ⟨id, off, e, he, fun j x hx => hc j x ?_⟩
  rw [cellsL_take, List.getElem?_take] at hx
  split at hx
  · exact hx
  · cases hx
theorem sl_drop {M : Mem} {id off n k : Nat} {l : List Int} (h : Sl intR M (some ⟨id, off, none⟩) n l) (hk : k ≤ n) : Sl intR M (some ⟨id, off + k, none⟩) (n - k) (l.drop k) := by
  refine ⟨by rw [List.length_drop, h.1], fun h0 => ?_⟩
  obtain ⟨_, _, e, he, hc⟩ := h.2 (by omega)
  cases e
  refine ⟨id, off + k, rfl, he, fun j x hx => ?_⟩
  rw [cellsL_drop, List.getElem?_drop, Nat.mul_one] at hx
  rw [Nat.add_assoc]
  exact hc _ x hx
section
variable {M : Mem} {A B C : Option Addr} {a b n c c1 c2 : Nat} {x y m : List Int}
theorem FadeSignal_i {f : Nat} (hx : Sl intR M A a x) (hm : Sl intR M C n m) (sx : Old.sigB x = true) (sm : Old.winB m = true) (hf : f ≤ 4000) :
    Ctr Try.prog M.length 20 [.slice A a c, .slice C n c2, iv f] M fun r M' => ∃ v0, r = .tuple #[v0, iv 0] ∧ Fresh intR M v0 M' (Old.fadeK x m f n) := by
  have hl := Old.sigB_len sx
  have e0 : Old.askC x m f = 0 := Old.askC_0 sx sm (Old.inB_iff.2 (by omega))
  have e1 : Old.fadeR x m f = Old.fadeK x m f n := by unfold Old.fadeR; rw [if_pos e0, hm.1]; rfl
  rw [← e1, ← e0]
  refine ctr_res ⟨_, Try.func20, by kernel_rfl, by kernel_rfl⟩ (by rw [e1, Old.fadeK_len]; omega) fun μ w cs hl hS => ?_
  obtain ⟨u1, ys, rfl, v1, hl⟩ := lrel_cons hl
  obtain ⟨u2, ys, rfl, v2, hl⟩ := lrel_cons hl
  obtain ⟨u3, ys, rfl, v3, hl⟩ := lrel_cons hl
  obtain rfl := lrel_nil hl
  obtain rfl := vrel_int v3
  obtain ⟨A', c', rfl, hr1⟩ := rd_of hS v1 hx
  obtain ⟨C', c2', rfl, hr2⟩ := rd_of hS v2 hm
  exact Old.FadeSignal_impl A' C' a c' n c2' x m f w hr1 hr2
theorem FadeRest_i {f : Nat} (hx : Sl intR M A a x) (hm : Sl intR M C n m) (sx : Old.sigB x = true) (sm : Old.winB m = true) (hf : f ≤ 4000) :
    Ctr Try.prog M.length 21 [.slice A a c, .slice C n c2, iv f] M fun r M' => ∃ v0, r = .tuple #[v0, iv 0] ∧ Fresh intR M v0 M' (Old.addL x (Old.fadeK x m f n) (-1)) := by
  have hl := Old.sigB_len sx
  have e0 : Old.askC x m f = 0 := Old.askC_0 sx sm (Old.inB_iff.2 (by omega))
  have e1 : Old.restR x m f = Old.addL x (Old.fadeK x m f n) (-1) := by unfold Old.restR; rw [if_pos e0, hm.1]; rfl
  rw [← e1, ← e0]
  refine ctr_res ⟨_, Try.func21, by kernel_rfl, by kernel_rfl⟩ (by rw [e1, addL_len, Old.fadeK_len]; omega) fun μ w cs hl hS => ?_
  obtain ⟨u1, ys, rfl, v1, hl⟩ := lrel_cons hl
  obtain ⟨u2, ys, rfl, v2, hl⟩ := lrel_cons hl
  obtain ⟨u3, ys, rfl, v3, hl⟩ := lrel_cons hl
  obtain rfl := lrel_nil hl
  obtain rfl := vrel_int v3
  obtain ⟨A', c', rfl, hr1⟩ := rd_of hS v1 hx
  obtain ⟨C', c2', rfl, hr2⟩ := rd_of hS v2 hm
  exact Old.FadeRest_impl A' C' a c' n c2' x m f w hr1 hr2
theorem Crossfade_i (hx : Sl intR M A n x) (hy : Sl intR M B n y) (hm : Sl intR M C n m) (sx : Old.sigB x = true) (sy : Old.sigB y = true) (sm : Old.winB m = true) :
    Ctr Try.prog M.length 24 [.slice A n c, .slice B n c1, .slice C n c2] M fun r M' => ∃ v0, r = .tuple #[v0, iv 0] ∧ Fresh intR M v0 M' (Old.crossL x y m n) := by
  have hl := Old.winB_len sm
  have e0 : Old.crossC x y m = 0 := by unfold Old.crossC; rw [sx, sy, sm, hx.1, hy.1, hm.1]; simp
  have e1 : Old.crossR x y m = Old.crossL x y m n := by unfold Old.crossR; rw [sx, sy, sm, hx.1, hy.1, hm.1]; simp
  rw [← e1, ← e0]
  refine ctr_res ⟨_, Try.func24, by kernel_rfl, by kernel_rfl⟩ (by have := hm.1; rw [e1, Old.crossL_len]; omega) fun μ w cs hl hS => ?_
  obtain ⟨u1, ys, rfl, v1, hl⟩ := lrel_cons hl
  obtain ⟨u2, ys, rfl, v2, hl⟩ := lrel_cons hl
  obtain ⟨u3, ys, rfl, v3, hl⟩ := lrel_cons hl
  obtain rfl := lrel_nil hl
  obtain ⟨A', c', rfl, hr1⟩ := rd_of hS v1 hx
  obtain ⟨B', c1', rfl, hr2⟩ := rd_of hS v2 hy
  obtain ⟨C', c2', rfl, hr3⟩ := rd_of hS v3 hm
  exact Old.Crossfade_impl A' B' C' n n n c' c1' c2' x y m w hr1 hr2 hr3
theorem Splice_i (hx : Sl intR M A a x) (hy : Sl intR M B b y) (hm : Sl intR M C n m) (hb : (Old.splR x y m).length ≤ 1099511627776) :
    Ctr Try.prog M.length 23 [.slice A a c, .slice B b c1, .slice C n c2] M fun r M' => ∃ v0, r = .tuple #[v0, iv (Old.splC x y m)] ∧ Fresh intR M v0 M' (Old.splR x y m) := by
  refine ctr_res ⟨_, Try.func23, by kernel_rfl, by kernel_rfl⟩ hb fun μ w cs hl hS => ?_
  obtain ⟨u1, ys, rfl, v1, hl⟩ := lrel_cons hl
  obtain ⟨u2, ys, rfl, v2, hl⟩ := lrel_cons hl
  obtain ⟨u3, ys, rfl, v3, hl⟩ := lrel_cons hl
  obtain rfl := lrel_nil hl
  obtain ⟨A', c', rfl, hr1⟩ := rd_of hS v1 hx
  obtain ⟨B', c1', rfl, hr2⟩ := rd_of hS v2 hy
  obtain ⟨C', c2', rfl, hr3⟩ := rd_of hS v3 hm
  exact Old.SpliceSignals_impl A' B' C' a b n c' c1' c2' x y m w hr1 hr2 hr3
theorem l03Ok_a (hx : Sl intR M A a x) : Det Try.prog M.length 66 [.slice A a c] M (.bool (Old.sigB x)) M := by
  refine det_val0 ⟨_, Try.func66, by kernel_rfl, by kernel_rfl⟩ rfl fun μ w cs hl hS => ?_
  obtain ⟨u1, ys, rfl, v1, hl⟩ := lrel_cons hl
  obtain rfl := lrel_nil hl
  obtain ⟨A', c', rfl, hr1⟩ := rd_of hS v1 hx
  exact Old.l03Ok_any A' a c' x w hr1
theorem l03Add_a {g : Int} (hx : Sl intR M A a x) (hy : Sl intR M B b y) (la : a ≤ 1048576) (lb : b ≤ 1048576) : Ctr Try.prog M.length 67 [.slice A a c, .slice B b c1, iv g] M fun r M' => Fresh intR M r M' (Old.addL x y g) := by
  refine ctr_ret ⟨_, Try.func67, by kernel_rfl, by kernel_rfl⟩ (by rw [addL_len, hx.1, hy.1]; omega) fun μ w cs hl hS => ?_
  obtain ⟨u1, ys, rfl, v1, hl⟩ := lrel_cons hl
  obtain ⟨u2, ys, rfl, v2, hl⟩ := lrel_cons hl
  obtain ⟨u3, ys, rfl, v3, hl⟩ := lrel_cons hl
  obtain rfl := lrel_nil hl
  obtain rfl := vrel_int v3
  obtain ⟨A', c', rfl, hr1⟩ := rd_of hS v1 hx
  obtain ⟨B', c1', rfl, hr2⟩ := rd_of hS v2 hy
  exact Old.l03Add_any A' B' a b c' c1' x y g w hr1 hr2 la lb
theorem AddSignals_s (hx : Sl intR M A a x) (hy : Sl intR M B b y) (sx : Old.sigB x = true) (sy : Old.sigB y = true) :
    Ctr Try.prog M.length 22 [.slice A a c, .slice B b c1] M fun r M' => ∃ v0, r = .tuple #[v0, iv 0] ∧ Fresh intR M v0 M' (Old.addL x y 1) := by
  have la := Old.sigB_len sx
  have lb := Old.sigB_len sy
  have e1 := hx.1
  have e2 := hy.1
  first | (refine ctr_fn Try.func22 rfl Try.ntmps22 Try.results22 rfl rfl (by simp) ?_) | (refine ctr_fnC Try.func22 rfl Try.ntmps22 Try.results22 rfl (by simp) ?_)
  simp
  refine awCall_det' (l03Ok_a hx) (by omega) ?_
  simp [sx]
  refine awCall_det' (l03Ok_a hy) (by omega) ?_
  simp [sy]
  refine awCall_ctr ((l03Add_a hx hy (by omega) (by omega)).weaken (by omega)) ?_
  rintro r M' hF
  try simp
  exact hF
end
end Go.Proofs.Ythopcmglcnlcfaa
