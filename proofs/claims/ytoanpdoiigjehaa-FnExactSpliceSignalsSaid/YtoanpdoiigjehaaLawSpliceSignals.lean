/- For every input: the program's SpliceSignals returns what the reference's returns, leaves its arguments alone, and hands back memory of its own. No conditions. -/
import Derived.Test.YtoanpdoiigjehaaSplice2
import Derived.Test.YtoanpdoiigjehaaLaw
namespace Go.Proofs.Ytoanpdoiigjehaa
open Go.ChangeShapes Go.WideShapes Go.ChangeAt Go.RowKit
set_option linter.unusedVariables false
set_option linter.unusedSimpArgs false

theorem splR_short (x y m : List Int) : (splR x y m).length ≤ 4000 := by
  rcases spl_cases x y m with ⟨s1, hC, hR⟩ | ⟨s1, s2, hC, hR⟩ | ⟨s1, s2, s3, hC, hR⟩ | ⟨s1, s2, s3, hl, hC, hR⟩ | ⟨s1, s2, s3, hl, hl2, hC, hR⟩ | ⟨s1, s2, s3, hl, hl2, hl3, hC, hR⟩ | ⟨s1, s2, s3, hl, hl2, hl3, hC, hR⟩
  all_goals rw [hR]
  all_goals first | (simp; done) | (rw [List.length_append, List.length_append, List.length_take, crossL_len, List.length_drop]; omega)
theorem I_SpliceSignals {v u t : Value} {x y m : List Int} {w : World} (hx : RdI w v x) (hy : RdI w u y) (hm : RdI w t m) :
    Calls Try.prog 23 #[v, u, t] w fun e w' => ∃ g, e = .returned (.tuple #[g, iv (splC x y m)]) ∧ HelI w' w.heap.size w'.heap.size g (splR x y m) ∧ Below w.heap.size w w' := by
  obtain ⟨_, _, _, rfl, hx⟩ := hx
  obtain ⟨_, _, _, rfl, hy⟩ := hy
  obtain ⟨_, _, _, rfl, hm⟩ := hm
  exact (SpliceSignals_impl _ _ _ _ _ _ _ _ _ _ _ _ _ hx hy hm).mono fun e w' ⟨g, he, ho, hb⟩ => ⟨g, he, ho.hel, hb⟩
theorem S_SpliceSignals {v u t : Value} {x y m : List Int} {w : World} (hx : RdI w v x) (hy : RdI w u y) (hm : RdI w t m) :
    Calls Try.prog 22 #[v, u, t] w fun e w' => ∃ g, e = .returned (.tuple #[g, iv (splC x y m)]) ∧ HelI w' w.heap.size w'.heap.size g (splR x y m) ∧ Below w.heap.size w w' := by
  obtain ⟨_, _, _, rfl, hx⟩ := hx
  obtain ⟨_, _, _, rfl, hy⟩ := hy
  obtain ⟨_, _, _, rfl, hm⟩ := hm
  exact (SpliceSignals_spec _ _ _ _ _ _ _ _ _ _ _ _ _ hx hy hm).mono fun e w' ⟨g, he, ho, hb⟩ => ⟨g, he, ho.hel, hb⟩

set_option maxHeartbeats 2000000 in
theorem lawSpliceSignals (vaA : Value) (daA : List Int) (vaB : Value) (daB : List Int) (vaW : Value) (daW : List Int) (w : World) (raA : RdI w vaA daA) (raB : RdI w vaB daB) (raW : RdI w vaW daW) :
    Calls Try.prog 6 #[vaA, vaB, vaW] w fun e w' => e = .returned (.bool true) ∧ Below w.heap.size w w' := by
  obtain ⟨AaA, naA, caA, rfl, qaA⟩ := raA
  have eaA : Hid (daA.length = naA) := by have := qaA.1; rw [ints_len] at this; show _ = _; omega
  have raA : RdI w (.slice AaA naA caA) daA := ⟨_, _, _, rfl, qaA⟩
  by_cases gaA : 1048576 < naA
  · go_enter Try.func6, Try.ntmps6
    go_wp2_with fail
    go_ret
    exact ⟨rfl, Below.refl _ _⟩
  have baA : daA.length ≤ 1048576 := by rw [eaA.out]; omega
  obtain ⟨AaB, naB, caB, rfl, qaB⟩ := raB
  have eaB : Hid (daB.length = naB) := by have := qaB.1; rw [ints_len] at this; show _ = _; omega
  have raB : RdI w (.slice AaB naB caB) daB := ⟨_, _, _, rfl, qaB⟩
  by_cases gaB : 1048576 < naB
  · go_enter Try.func6, Try.ntmps6
    go_wp2_with fail
    go_ret
    exact ⟨rfl, Below.refl _ _⟩
  have baB : daB.length ≤ 1048576 := by rw [eaB.out]; omega
  obtain ⟨AaW, naW, caW, rfl, qaW⟩ := raW
  have eaW : Hid (daW.length = naW) := by have := qaW.1; rw [ints_len] at this; show _ = _; omega
  have raW : RdI w (.slice AaW naW caW) daW := ⟨_, _, _, rfl, qaW⟩
  by_cases gaW : 1048576 < naW
  · go_enter Try.func6, Try.ntmps6
    go_wp2_with fail
    go_ret
    exact ⟨rfl, Below.refl _ _⟩
  have baW : daW.length ≤ 1048576 := by rw [eaW.out]; omega
  have hs := splR_short daA daB daW
  have B := Below.refl w.heap.size w
  go_enter Try.func6, Try.ntmps6
  go_wp2_with fail
  refine (to_I (raA.below B) (by omega)).mono ?_; rintro e w1 ⟨t1, rfl, o_t1', hb⟩
  have s1 := hb.size
  replace B := B.trans (hb.mono B.size)
  clear hb
  have o_t1 := o_t1'
  clear o_t1'
  go_wp2_with fail
  refine (to_I (raB.below B) (by omega)).mono ?_; rintro e w2 ⟨t2, rfl, o_t2', hb⟩
  have s2 := hb.size
  replace o_t1 := o_t1.below hb o_t1.top
  replace B := B.trans (hb.mono B.size)
  clear hb
  have o_t2 := o_t2'
  clear o_t2'
  go_wp2_with fail
  refine (to_I (raW.below B) (by omega)).mono ?_; rintro e w3 ⟨t3, rfl, o_t3', hb⟩
  have s3 := hb.size
  replace o_t1 := o_t1.below hb o_t1.top
  replace o_t2 := o_t2.below hb o_t2.top
  replace B := B.trans (hb.mono B.size)
  clear hb
  have o_t3 := o_t3'
  clear o_t3'
  go_wp2_with fail
  refine (S_SpliceSignals o_t1.rdI o_t2.rdI o_t3.rdI).mono ?_; rintro e w4 ⟨w0, rfl, o_w0', hb⟩
  have s4 := hb.size
  replace o_t1 := o_t1.below hb o_t1.top
  replace o_t2 := o_t2.below hb o_t2.top
  replace o_t3 := o_t3.below hb o_t3.top
  replace B := B.trans (hb.mono B.size)
  clear hb
  have o_w0 := o_w0'
  clear o_w0'
  go_wp2_with fail
  refine (to_I (raA.below B) (by omega)).mono ?_; rintro e w5 ⟨t5, rfl, o_t5', hb⟩
  have s5 := hb.size
  replace o_t1 := o_t1.below hb o_t1.top
  replace o_t2 := o_t2.below hb o_t2.top
  replace o_t3 := o_t3.below hb o_t3.top
  replace o_w0 := o_w0.below hb o_w0.top
  replace B := B.trans (hb.mono B.size)
  clear hb
  have o_t5 := o_t5'
  clear o_t5'
  have o_x0 := o_t5
  clear o_t5
  go_wp2_with fail
  refine (to_I (raB.below B) (by omega)).mono ?_; rintro e w6 ⟨t6, rfl, o_t6', hb⟩
  have s6 := hb.size
  replace o_t1 := o_t1.below hb o_t1.top
  replace o_t2 := o_t2.below hb o_t2.top
  replace o_t3 := o_t3.below hb o_t3.top
  replace o_w0 := o_w0.below hb o_w0.top
  replace o_x0 := o_x0.below hb o_x0.top
  replace B := B.trans (hb.mono B.size)
  clear hb
  have o_t6 := o_t6'
  clear o_t6'
  have o_x1 := o_t6
  clear o_t6
  go_wp2_with fail
  refine (to_I (raW.below B) (by omega)).mono ?_; rintro e w7 ⟨t7, rfl, o_t7', hb⟩
  have s7 := hb.size
  replace o_t1 := o_t1.below hb o_t1.top
  replace o_t2 := o_t2.below hb o_t2.top
  replace o_t3 := o_t3.below hb o_t3.top
  replace o_w0 := o_w0.below hb o_w0.top
  replace o_x0 := o_x0.below hb o_x0.top
  replace o_x1 := o_x1.below hb o_x1.top
  replace B := B.trans (hb.mono B.size)
  clear hb
  have o_t7 := o_t7'
  clear o_t7'
  have o_x2 := o_t7
  clear o_t7
  go_wp2_with fail
  refine (I_SpliceSignals o_x0.rdI o_x1.rdI o_x2.rdI).mono ?_; rintro e w8 ⟨g0, rfl, o_g0', hb⟩
  have s8 := hb.size
  replace o_t1 := o_t1.below hb o_t1.top
  replace o_t2 := o_t2.below hb o_t2.top
  replace o_t3 := o_t3.below hb o_t3.top
  replace o_w0 := o_w0.below hb o_w0.top
  replace o_x0 := o_x0.below hb o_x0.top
  replace o_x1 := o_x1.below hb o_x1.top
  replace o_x2 := o_x2.below hb o_x2.top
  replace B := B.trans (hb.mono B.size)
  clear hb
  have o_g0 := o_g0'
  clear o_g0'
  go_wp2_with fail
  refine (eq_I o_g0.rdI o_w0.rdI).mono ?_; rintro e w9 ⟨rfl, hb⟩
  have s9 := hb.size
  replace o_t1 := o_t1.below hb o_t1.top
  replace o_t2 := o_t2.below hb o_t2.top
  replace o_t3 := o_t3.below hb o_t3.top
  replace o_w0 := o_w0.below hb o_w0.top
  replace o_x0 := o_x0.below hb o_x0.top
  replace o_x1 := o_x1.below hb o_x1.top
  replace o_x2 := o_x2.below hb o_x2.top
  replace o_g0 := o_g0.below hb o_g0.top
  replace B := B.trans (hb.mono B.size)
  clear hb
  go_wp2_with fail
  refine (to_I (raA.below B) (by omega)).mono ?_; rintro e w10 ⟨t9, rfl, o_t9', hb⟩
  have s10 := hb.size
  replace o_t1 := o_t1.below hb o_t1.top
  replace o_t2 := o_t2.below hb o_t2.top
  replace o_t3 := o_t3.below hb o_t3.top
  replace o_w0 := o_w0.below hb o_w0.top
  replace o_x0 := o_x0.below hb o_x0.top
  replace o_x1 := o_x1.below hb o_x1.top
  replace o_x2 := o_x2.below hb o_x2.top
  replace o_g0 := o_g0.below hb o_g0.top
  replace B := B.trans (hb.mono B.size)
  clear hb
  have o_t9 := o_t9'
  clear o_t9'
  go_wp2_with fail
  refine (eq_I o_x0.rdI o_t9.rdI).mono ?_; rintro e w11 ⟨rfl, hb⟩
  have s11 := hb.size
  replace o_t1 := o_t1.below hb o_t1.top
  replace o_t2 := o_t2.below hb o_t2.top
  replace o_t3 := o_t3.below hb o_t3.top
  replace o_w0 := o_w0.below hb o_w0.top
  replace o_x0 := o_x0.below hb o_x0.top
  replace o_x1 := o_x1.below hb o_x1.top
  replace o_x2 := o_x2.below hb o_x2.top
  replace o_g0 := o_g0.below hb o_g0.top
  replace o_t9 := o_t9.below hb o_t9.top
  replace B := B.trans (hb.mono B.size)
  clear hb
  go_wp2_with fail
  refine (to_I (raB.below B) (by omega)).mono ?_; rintro e w12 ⟨t10, rfl, o_t10', hb⟩
  have s12 := hb.size
  replace o_t1 := o_t1.below hb o_t1.top
  replace o_t2 := o_t2.below hb o_t2.top
  replace o_t3 := o_t3.below hb o_t3.top
  replace o_w0 := o_w0.below hb o_w0.top
  replace o_x0 := o_x0.below hb o_x0.top
  replace o_x1 := o_x1.below hb o_x1.top
  replace o_x2 := o_x2.below hb o_x2.top
  replace o_g0 := o_g0.below hb o_g0.top
  replace o_t9 := o_t9.below hb o_t9.top
  replace B := B.trans (hb.mono B.size)
  clear hb
  have o_t10 := o_t10'
  clear o_t10'
  go_wp2_with fail
  refine (eq_I o_x1.rdI o_t10.rdI).mono ?_; rintro e w13 ⟨rfl, hb⟩
  have s13 := hb.size
  replace o_t1 := o_t1.below hb o_t1.top
  replace o_t2 := o_t2.below hb o_t2.top
  replace o_t3 := o_t3.below hb o_t3.top
  replace o_w0 := o_w0.below hb o_w0.top
  replace o_x0 := o_x0.below hb o_x0.top
  replace o_x1 := o_x1.below hb o_x1.top
  replace o_x2 := o_x2.below hb o_x2.top
  replace o_g0 := o_g0.below hb o_g0.top
  replace o_t9 := o_t9.below hb o_t9.top
  replace o_t10 := o_t10.below hb o_t10.top
  replace B := B.trans (hb.mono B.size)
  clear hb
  go_wp2_with fail
  refine (to_I (raW.below B) (by omega)).mono ?_; rintro e w14 ⟨t11, rfl, o_t11', hb⟩
  have s14 := hb.size
  replace o_t1 := o_t1.below hb o_t1.top
  replace o_t2 := o_t2.below hb o_t2.top
  replace o_t3 := o_t3.below hb o_t3.top
  replace o_w0 := o_w0.below hb o_w0.top
  replace o_x0 := o_x0.below hb o_x0.top
  replace o_x1 := o_x1.below hb o_x1.top
  replace o_x2 := o_x2.below hb o_x2.top
  replace o_g0 := o_g0.below hb o_g0.top
  replace o_t9 := o_t9.below hb o_t9.top
  replace o_t10 := o_t10.below hb o_t10.top
  replace B := B.trans (hb.mono B.size)
  clear hb
  have o_t11 := o_t11'
  clear o_t11'
  go_wp2_with fail
  refine (eq_I o_x2.rdI o_t11.rdI).mono ?_; rintro e w15 ⟨rfl, hb⟩
  have s15 := hb.size
  replace o_t1 := o_t1.below hb o_t1.top
  replace o_t2 := o_t2.below hb o_t2.top
  replace o_t3 := o_t3.below hb o_t3.top
  replace o_w0 := o_w0.below hb o_w0.top
  replace o_x0 := o_x0.below hb o_x0.top
  replace o_x1 := o_x1.below hb o_x1.top
  replace o_x2 := o_x2.below hb o_x2.top
  replace o_g0 := o_g0.below hb o_g0.top
  replace o_t9 := o_t9.below hb o_t9.top
  replace o_t10 := o_t10.below hb o_t10.top
  replace o_t11 := o_t11.below hb o_t11.top
  replace B := B.trans (hb.mono B.size)
  clear hb
  go_wp2_with fail
  refine (mark_I o_x0 (by omega) (by omega)).mono ?_; rintro e w16 ⟨rfl, o_x0', ho⟩
  have s16 := ho.size
  replace o_t1 := o_t1.outside ho (by omega)
  replace o_t2 := o_t2.outside ho (by omega)
  replace o_t3 := o_t3.outside ho (by omega)
  replace o_w0 := o_w0.outside ho (by omega)
  replace o_x1 := o_x1.outside ho (by omega)
  replace o_x2 := o_x2.outside ho (by omega)
  replace o_g0 := o_g0.outside ho (by omega)
  replace o_t9 := o_t9.outside ho (by omega)
  replace o_t10 := o_t10.outside ho (by omega)
  replace o_t11 := o_t11.outside ho (by omega)
  replace B := B.trans (ho.below (by omega) B.size)
  replace o_x0 := o_x0'
  clear o_x0' ho
  go_wp2_with fail
  refine (mark_I o_x1 (by omega) (by omega)).mono ?_; rintro e w17 ⟨rfl, o_x1', ho⟩
  have s17 := ho.size
  replace o_t1 := o_t1.outside ho (by omega)
  replace o_t2 := o_t2.outside ho (by omega)
  replace o_t3 := o_t3.outside ho (by omega)
  replace o_w0 := o_w0.outside ho (by omega)
  replace o_x0 := o_x0.outside ho (by omega)
  replace o_x2 := o_x2.outside ho (by omega)
  replace o_g0 := o_g0.outside ho (by omega)
  replace o_t9 := o_t9.outside ho (by omega)
  replace o_t10 := o_t10.outside ho (by omega)
  replace o_t11 := o_t11.outside ho (by omega)
  replace B := B.trans (ho.below (by omega) B.size)
  replace o_x1 := o_x1'
  clear o_x1' ho
  go_wp2_with fail
  refine (mark_I o_x2 (by omega) (by omega)).mono ?_; rintro e w18 ⟨rfl, o_x2', ho⟩
  have s18 := ho.size
  replace o_t1 := o_t1.outside ho (by omega)
  replace o_t2 := o_t2.outside ho (by omega)
  replace o_t3 := o_t3.outside ho (by omega)
  replace o_w0 := o_w0.outside ho (by omega)
  replace o_x0 := o_x0.outside ho (by omega)
  replace o_x1 := o_x1.outside ho (by omega)
  replace o_g0 := o_g0.outside ho (by omega)
  replace o_t9 := o_t9.outside ho (by omega)
  replace o_t10 := o_t10.outside ho (by omega)
  replace o_t11 := o_t11.outside ho (by omega)
  replace B := B.trans (ho.below (by omega) B.size)
  replace o_x2 := o_x2'
  clear o_x2' ho
  go_wp2_with fail
  refine (eq_I o_g0.rdI o_w0.rdI).mono ?_; rintro e w19 ⟨rfl, hb⟩
  have s19 := hb.size
  replace o_t1 := o_t1.below hb o_t1.top
  replace o_t2 := o_t2.below hb o_t2.top
  replace o_t3 := o_t3.below hb o_t3.top
  replace o_w0 := o_w0.below hb o_w0.top
  replace o_x0 := o_x0.below hb o_x0.top
  replace o_x1 := o_x1.below hb o_x1.top
  replace o_x2 := o_x2.below hb o_x2.top
  replace o_g0 := o_g0.below hb o_g0.top
  replace o_t9 := o_t9.below hb o_t9.top
  replace o_t10 := o_t10.below hb o_t10.top
  replace o_t11 := o_t11.below hb o_t11.top
  replace B := B.trans (hb.mono B.size)
  clear hb
  go_wp2_with fail
  refine (mark_I o_g0 (by omega) (by omega)).mono ?_; rintro e w20 ⟨rfl, o_g0', ho⟩
  have s20 := ho.size
  replace o_t1 := o_t1.outside ho (by omega)
  replace o_t2 := o_t2.outside ho (by omega)
  replace o_t3 := o_t3.outside ho (by omega)
  replace o_w0 := o_w0.outside ho (by omega)
  replace o_x0 := o_x0.outside ho (by omega)
  replace o_x1 := o_x1.outside ho (by omega)
  replace o_x2 := o_x2.outside ho (by omega)
  replace o_t9 := o_t9.outside ho (by omega)
  replace o_t10 := o_t10.outside ho (by omega)
  replace o_t11 := o_t11.outside ho (by omega)
  replace B := B.trans (ho.below (by omega) B.size)
  replace o_g0 := o_g0'
  clear o_g0' ho
  go_wp2_with fail
  refine (held_I o_g0 (by omega) (by omega)).mono ?_; rintro e w21 ⟨rfl, hb⟩
  have s21 := hb.size
  replace o_t1 := o_t1.below hb o_t1.top
  replace o_t2 := o_t2.below hb o_t2.top
  replace o_t3 := o_t3.below hb o_t3.top
  replace o_w0 := o_w0.below hb o_w0.top
  replace o_x0 := o_x0.below hb o_x0.top
  replace o_x1 := o_x1.below hb o_x1.top
  replace o_x2 := o_x2.below hb o_x2.top
  replace o_g0 := o_g0.below hb o_g0.top
  replace o_t9 := o_t9.below hb o_t9.top
  replace o_t10 := o_t10.below hb o_t10.top
  replace o_t11 := o_t11.below hb o_t11.top
  replace B := B.trans (hb.mono B.size)
  clear hb
  go_wp2_with fail
  refine (to_I (raA.below B) (by omega)).mono ?_; rintro e w22 ⟨t12, rfl, o_t12', hb⟩
  have s22 := hb.size
  replace o_t1 := o_t1.below hb o_t1.top
  replace o_t2 := o_t2.below hb o_t2.top
  replace o_t3 := o_t3.below hb o_t3.top
  replace o_w0 := o_w0.below hb o_w0.top
  replace o_x0 := o_x0.below hb o_x0.top
  replace o_x1 := o_x1.below hb o_x1.top
  replace o_x2 := o_x2.below hb o_x2.top
  replace o_g0 := o_g0.below hb o_g0.top
  replace o_t9 := o_t9.below hb o_t9.top
  replace o_t10 := o_t10.below hb o_t10.top
  replace o_t11 := o_t11.below hb o_t11.top
  replace B := B.trans (hb.mono B.size)
  clear hb
  have o_t12 := o_t12'
  clear o_t12'
  go_wp2_with fail
  refine (to_I (raB.below B) (by omega)).mono ?_; rintro e w23 ⟨t13, rfl, o_t13', hb⟩
  have s23 := hb.size
  replace o_t1 := o_t1.below hb o_t1.top
  replace o_t2 := o_t2.below hb o_t2.top
  replace o_t3 := o_t3.below hb o_t3.top
  replace o_w0 := o_w0.below hb o_w0.top
  replace o_x0 := o_x0.below hb o_x0.top
  replace o_x1 := o_x1.below hb o_x1.top
  replace o_x2 := o_x2.below hb o_x2.top
  replace o_g0 := o_g0.below hb o_g0.top
  replace o_t9 := o_t9.below hb o_t9.top
  replace o_t10 := o_t10.below hb o_t10.top
  replace o_t11 := o_t11.below hb o_t11.top
  replace o_t12 := o_t12.below hb o_t12.top
  replace B := B.trans (hb.mono B.size)
  clear hb
  have o_t13 := o_t13'
  clear o_t13'
  go_wp2_with fail
  refine (to_I (raW.below B) (by omega)).mono ?_; rintro e w24 ⟨t14, rfl, o_t14', hb⟩
  have s24 := hb.size
  replace o_t1 := o_t1.below hb o_t1.top
  replace o_t2 := o_t2.below hb o_t2.top
  replace o_t3 := o_t3.below hb o_t3.top
  replace o_w0 := o_w0.below hb o_w0.top
  replace o_x0 := o_x0.below hb o_x0.top
  replace o_x1 := o_x1.below hb o_x1.top
  replace o_x2 := o_x2.below hb o_x2.top
  replace o_g0 := o_g0.below hb o_g0.top
  replace o_t9 := o_t9.below hb o_t9.top
  replace o_t10 := o_t10.below hb o_t10.top
  replace o_t11 := o_t11.below hb o_t11.top
  replace o_t12 := o_t12.below hb o_t12.top
  replace o_t13 := o_t13.below hb o_t13.top
  replace B := B.trans (hb.mono B.size)
  clear hb
  have o_t14 := o_t14'
  clear o_t14'
  go_wp2_with fail
  refine (I_SpliceSignals o_t12.rdI o_t13.rdI o_t14.rdI).mono ?_; rintro e w25 ⟨h0, rfl, o_h0', hb⟩
  have s25 := hb.size
  replace o_t1 := o_t1.below hb o_t1.top
  replace o_t2 := o_t2.below hb o_t2.top
  replace o_t3 := o_t3.below hb o_t3.top
  replace o_w0 := o_w0.below hb o_w0.top
  replace o_x0 := o_x0.below hb o_x0.top
  replace o_x1 := o_x1.below hb o_x1.top
  replace o_x2 := o_x2.below hb o_x2.top
  replace o_g0 := o_g0.below hb o_g0.top
  replace o_t9 := o_t9.below hb o_t9.top
  replace o_t10 := o_t10.below hb o_t10.top
  replace o_t11 := o_t11.below hb o_t11.top
  replace o_t12 := o_t12.below hb o_t12.top
  replace o_t13 := o_t13.below hb o_t13.top
  replace o_t14 := o_t14.below hb o_t14.top
  replace B := B.trans (hb.mono B.size)
  clear hb
  have o_h0 := o_h0'
  clear o_h0'
  go_wp2_with fail
  refine (eq_I o_h0.rdI o_w0.rdI).mono ?_; rintro e w26 ⟨rfl, hb⟩
  have s26 := hb.size
  replace o_t1 := o_t1.below hb o_t1.top
  replace o_t2 := o_t2.below hb o_t2.top
  replace o_t3 := o_t3.below hb o_t3.top
  replace o_w0 := o_w0.below hb o_w0.top
  replace o_x0 := o_x0.below hb o_x0.top
  replace o_x1 := o_x1.below hb o_x1.top
  replace o_x2 := o_x2.below hb o_x2.top
  replace o_g0 := o_g0.below hb o_g0.top
  replace o_t9 := o_t9.below hb o_t9.top
  replace o_t10 := o_t10.below hb o_t10.top
  replace o_t11 := o_t11.below hb o_t11.top
  replace o_t12 := o_t12.below hb o_t12.top
  replace o_t13 := o_t13.below hb o_t13.top
  replace o_t14 := o_t14.below hb o_t14.top
  replace o_h0 := o_h0.below hb o_h0.top
  replace B := B.trans (hb.mono B.size)
  clear hb
  go_wp2_with fail
  refine (held_I o_g0 (by omega) (by omega)).mono ?_; rintro e w27 ⟨rfl, hb⟩
  have s27 := hb.size
  replace o_t1 := o_t1.below hb o_t1.top
  replace o_t2 := o_t2.below hb o_t2.top
  replace o_t3 := o_t3.below hb o_t3.top
  replace o_w0 := o_w0.below hb o_w0.top
  replace o_x0 := o_x0.below hb o_x0.top
  replace o_x1 := o_x1.below hb o_x1.top
  replace o_x2 := o_x2.below hb o_x2.top
  replace o_g0 := o_g0.below hb o_g0.top
  replace o_t9 := o_t9.below hb o_t9.top
  replace o_t10 := o_t10.below hb o_t10.top
  replace o_t11 := o_t11.below hb o_t11.top
  replace o_t12 := o_t12.below hb o_t12.top
  replace o_t13 := o_t13.below hb o_t13.top
  replace o_t14 := o_t14.below hb o_t14.top
  replace o_h0 := o_h0.below hb o_h0.top
  replace B := B.trans (hb.mono B.size)
  clear hb
  go_wp2
  go_ret
  exact ⟨rfl, B⟩

set_option maxRecDepth 100000 in
theorem FnExactSpliceSignals_lifted (os : Os) (started : os.Started) (H : Type) (enc : TypeId × Value → H) :
    ReturnsInHanded {} Try.checked os 6 .any (Rows.fnExactSpliceSignalsSpec.pre6 enc Try.prog Try.f6 Rows.fnExactSpliceSignalsRow.domain false) (Rows.fnExactSpliceSignalsSpec.post enc Try.prog Try.f6 false true false false) := by
  refine returnsInHanded_of_change (C := Try.checked) own_knob started (by kernel_rfl) Try.func6
    (ChangeSpec.witness6 (enc := enc) (C := Try.checked) false ⟨#[], #[.slice none 0 0, .slice none 0 0, .slice none 0 0], []⟩ 8 (by kernel_rfl) (by kernel_rfl) (by kernel_rfl) (by kernel_rfl)) ?_
  intro W base args ds gs before hval0 hW hcnd _
  have hval : ∀ (j : Nat) t v, Try.f6.params[j]? = some t → args[j]? = some v → Value.okWide Try.prog W .any base t v := hval0
  have hW' := hW
  have hlt := hW.lt
  obtain ⟨p, q, hA0, hV, rfl, hfz, hnd⟩ := hW
  have hA : DataW.TrodAll enc Try.prog W 0 (fun _ => true) true Try.f6.params.toList args.toList ds p := hA0
  rw [Try.params6] at hA hval
  obtain ⟨v0, v1, v2, d0, d1, d2, p0, p1, p2, rfl, rfl, rfl, h0, h1, h2⟩ := trodAll_three hA
  obtain ⟨x0, hx0⟩ := open_I hlt (hval 0 _ v0 rfl rfl) h0 (fun x hx => by simp [hx])
  obtain ⟨x1, hx1⟩ := open_I hlt (hval 1 _ v1 rfl rfl) h1 (fun x hx => by simp [hx])
  obtain ⟨x2, hx2⟩ := open_I hlt (hval 2 _ v2 rfl rfl) h2 (fun x hx => by simp [hx])
  refine (lawSpliceSignals v0 x0 v1 x1 v2 x2 W hx0 hx1 hx2).mono fun e W' ⟨he, hb⟩ => ?_
  subst he
  exact ⟨_, rfl, law_post rfl rfl (by kernel_rfl) rfl hW' hb⟩
theorem FnExactSpliceSignals_holds : Rows.FnExactSpliceSignalsSaid :=
  OpenClaim.holds_of_wide 6 Try.f6 rfl rfl rfl rfl rfl rfl rfl ⟨rfl, rfl, rfl, rfl, rfl⟩ rfl rfl rfl rfl rfl (by kernel_rfl) Try.func6 (by kernel_rfl)
    (of_decide_eq_true (by kernel_rfl)) (by unfold Func.isWrapper; first | (rw [if_pos (by decide +kernel)]; kernel_rfl) | (rw [if_neg (by decide +kernel)]; exact ⟨rfl, rfl⟩))
    (fun os started H enc _ => FnExactSpliceSignals_lifted os started H enc)
#print axioms FnExactSpliceSignals_holds
end Go.Proofs.Ytoanpdoiigjehaa
